/- Contracts of package blob: Clone, held, Get, Let, Size, Hold. -/
import Derived.Test.YtelpommocgmdjaaBlob
namespace Go.Proofs.Ytelpommocgmdjaa
open Go.RowKit
theorem info_cloneB : (Try.prog.info? 70).map (fun i => (i.zero, i.size, i.bytes)) = some (some (.agg #[.string ⟨#[]⟩, .int .i64 0]), 2, 24) := by kernel_rfl
set_option maxRecDepth 100000 in
set_option maxHeartbeats 400000 in
theorem cloneB (A : Option Addr) (n c : Nat) (g : Nat → List Value) (w : World) (hR : Rd w 2 g A n) (hl : ∀ k, (g k).length = 2) (h1 : ∀ k u, u ∈ g k → u.oneCell' = true)
    (hA : A = none → n = 0) (hn : n * 24 ≤ 140737488355328) :
    Calls Try.prog 68 #[.slice A n c] w (ClonePost 70 2 n (flatC g n) w) := by
  obtain ⟨i0, hi, hz0, hz1, hz2⟩ := info_parts info_cloneB
  have hnil := fun (w : World) => Lib.run_eql_slice_nil (P := Try.prog) w
  cases A with
  | none =>
    obtain rfl := hA rfl
    clear hR hl h1 hA hi hz0 hz1 hz2 hn
    go_enter Try.func68, Try.ntmps68
    go_wp2_with fail
    go_ret
    exact ⟨_, rfl, World.ownsRow_nil _ _ _ _, Below.refl _ _⟩
  | some a =>
    have hn0 : ∀ (o : Obj) j u, (flatC g n)[j]? = some u → (w.alloc o).cell? (a.add j) = some u := fun o j u hu => by
      obtain ⟨q1, q2, q3⟩ := flatC_at hl (by omega) hu
      obtain ⟨b, off, hab, hb, hc⟩ := hR (by omega)
      injection hab with hab
      subst hab
      have e : (⟨b, off, none⟩ : Addr).add j = ⟨b, off + j / 2 * 2 + j % 2, none⟩ := by
        have := Nat.div_add_mod' j 2
        unfold Addr.add
        split
        · rename_i h; subst h; simp
        · simp; omega
      rw [e, World.cell?_alloc_lt _ _ _ hb]
      exact hc _ q1 _ _ q3
    have HN := Lib.hid hn0
    have H1 := Lib.hid h1
    have HL := Lib.hid (flatC_length hl n)
    clear hR hl h1 hA hn0
    go_enter Try.func68, Try.ntmps68
    go_wp2_with (at_builtin; refine wpList_append_own _ rfl _ _ 56 rfl w.heap.size 70 i0 _ 2 24 Try.underlying56 hi hz0 hz1 hz2 rfl (by omega) (.slice (some ⟨w.heap.size, 0, none⟩) 0 0) 0 [] rfl (World.ownsRow_lit w #[] 0 (Nat.le_refl _) (by simp [maxLen]) rfl) a n c (flatC g n) rfl HL.out (HN.out _) (fun u hu => by obtain ⟨k, _, hk⟩ := flatC_mem hu; exact H1.out k u hk) (by unfold maxLen; omega) (by omega) (by simp) ?_; intro v1 w1 hown hgrow _; simp only [Nat.zero_add, List.nil_append] at hown)
    go_ret
    exact ⟨v1, rfl, hown, ((Below.refl _ _).alloc (Nat.le_refl _) _).grown hgrow (by simp) (by simp [Value.ownBlock])⟩


theorem check_ok (A : Option Addr) (n c : Nat) (T : Nat → ByteArray) (M : Nat → Int) (w : World) (hn : n ≤ c) (hc : c ≤ 9223372036854775807) (hR : Rd w 2 (blobC T M) A n) (ok : OkS T M n) :
    Calls Try.prog 33 #[.slice A n c] w fun e w' => e = .returned (.int .i64 0) ∧ Below w.heap.size w w' :=
  (check_any A n c T M w hn hc hR).mono fun _ _ ⟨_, he, hx, hb⟩ => ⟨by rw [he, hx.2 ok], hb⟩
def ErrPost (w : World) (e : Ending) (w' : World) : Prop := ∃ x : Int, e = .returned (.int .i64 x) ∧ x ≠ 0 ∧ Below w.heap.size w w'
theorem check_bad (A : Option Addr) (n c : Nat) (T : Nat → ByteArray) (M : Nat → Int) (w : World) (hn : n ≤ c) (hc : c ≤ 9223372036854775807) (hR : Rd w 2 (blobC T M) A n) (ok : ¬ OkS T M n) :
    Calls Try.prog 33 #[.slice A n c] w (ErrPost w) :=
  (check_any A n c T M w hn hc hR).mono fun _ _ ⟨x, he, hx, hb⟩ => ⟨x, he, fun h => ok (hx.1 h), hb⟩
set_option maxHeartbeats 400000 in
theorem held_bad (A : Option Addr) (n c : Nat) (T : Nat → ByteArray) (M : Nat → Int) (at_ : Int) (w : World) (hn : n ≤ c) (hc : c ≤ 9223372036854775807) (hR : Rd w 2 (blobC T M) A n) (ok : ¬ OkS T M n) :
    Calls Try.prog 69 #[.slice A n c, .int .i64 at_] w (ErrPost w) := by
  have H := Lib.hid (check_bad A n c T M w hn hc hR ok)
  clear hR ok
  go_enter Try.func69, Try.ntmps69
  go_wp2_with fail
  refine H.out.mono ?_
  rintro e w1 ⟨x, rfl, hx, hb⟩
  have hx1 : (x != 0) = true := by simpa using hx
  have hx2 : (x == 0) = false := by simpa using hx
  have HX := Lib.hid hx
  clear hx
  go_wp2_with fail
  go_ret
  exact ⟨x, rfl, HX.out, hb⟩
set_option maxHeartbeats 400000 in
theorem held_none (A : Option Addr) (n c : Nat) (T : Nat → ByteArray) (M : Nat → Int) (at_ : Int) (w : World) (hn : n ≤ c) (hc : c ≤ 9223372036854775807) (hR : Rd w 2 (blobC T M) A n) (ok : OkS T M n) (h : at_ < 0 ∨ (n : Int) ≤ at_ ∨ M at_.toNat = 0) :
    Calls Try.prog 69 #[.slice A n c, .int .i64 at_] w fun e w' => e = .returned (.int .i64 4) ∧ Below w.heap.size w w' := by
  have H := Lib.hid (check_ok A n c T M w hn hc hR ok)
  by_cases h1 : at_ < 0
  · clear hR ok h
    go_enter Try.func69, Try.ntmps69
    go_wp2_with fail
    refine H.out.mono ?_
    rintro e w1 ⟨rfl, hb⟩
    go_wp2_with fail
    go_ret
    exact ⟨rfl, hb⟩
  by_cases h2 : (n : Int) ≤ at_
  · clear hR ok h
    go_enter Try.func69, Try.ntmps69
    go_wp2_with fail
    refine H.out.mono ?_
    rintro e w1 ⟨rfl, hb⟩
    go_wp2_with fail
    go_ret
    exact ⟨rfl, hb⟩
  · obtain ⟨k, rfl⟩ := Int.eq_ofNat_of_zero_le (show 0 ≤ at_ by omega)
    have hk : k < n := by omega
    have hm : M k = 0 := by rcases h with h | h | h; omega; omega; simpa using h
    obtain ⟨b, off, rfl, hb0, hcell⟩ := hR (by omega)
    have c1 : w.cell? ⟨b, off + k * 2 + 1, none⟩ = some (.int .i64 0) := by rw [hcell k hk 1 _ rfl, hm]
    clear hR ok h h1 h2 hm hcell
    go_enter Try.func69, Try.ntmps69
    go_wp2_with fail
    refine H.out.mono ?_
    rintro e w1 ⟨rfl, hb⟩
    have c1' : w1.cell? ⟨b, off + k * 2 + 1, none⟩ = some (.int .i64 0) := (hb.cell (p := ⟨b, _, none⟩) hb0).trans c1
    clear c1
    go_wp2_with fail
    go_ret
    exact ⟨rfl, hb⟩
set_option maxHeartbeats 400000 in
theorem held_ok (A : Option Addr) (n c : Nat) (T : Nat → ByteArray) (M : Nat → Int) (k : Nat) (w : World) (hn : n ≤ c) (hc : c ≤ 9223372036854775807) (hR : Rd w 2 (blobC T M) A n) (ok : OkS T M n) (hk : k < n) (hm : M k ≠ 0) :
    Calls Try.prog 69 #[.slice A n c, .int .i64 k] w fun e w' => e = .returned (.int .i64 0) ∧ Below w.heap.size w w' := by
  have H := Lib.hid (check_ok A n c T M w hn hc hR ok)
  obtain ⟨b, off, rfl, hb0, hcell⟩ := hR (by omega)
  obtain ⟨m, hm0⟩ : ∃ m, M k = m := ⟨_, rfl⟩
  have c1 : w.cell? ⟨b, off + k * 2 + 1, none⟩ = some (.int .i64 m) := by rw [hcell k hk 1 _ rfl, hm0]
  have m1 : (m == 0) = false := by rw [← hm0]; simpa using hm
  clear hR ok hm hcell hm0
  go_enter Try.func69, Try.ntmps69
  go_wp2_with fail
  refine H.out.mono ?_
  rintro e w1 ⟨rfl, hb⟩
  have c1' : w1.cell? ⟨b, off + k * 2 + 1, none⟩ = some (.int .i64 m) := (hb.cell (p := ⟨b, _, none⟩) hb0).trans c1
  clear c1
  go_wp2_with fail
  go_ret
  exact ⟨rfl, hb⟩

def GetErr (w : World) (e : Ending) (w' : World) : Prop := ∃ x : Int, e = .returned (.tuple #[.string ⟨#[]⟩, .int .i64 x]) ∧ x ≠ 0 ∧ Below w.heap.size w w'
set_option maxHeartbeats 400000 in
theorem get_bad (A : Option Addr) (n c : Nat) (T : Nat → ByteArray) (M : Nat → Int) (at_ : Int) (w : World) (hn : n ≤ c) (hc : c ≤ 9223372036854775807) (hR : Rd w 2 (blobC T M) A n) (ok : ¬ OkS T M n) :
    Calls Try.prog 31 #[.slice A n c, .int .i64 at_] w (GetErr w) := by
  have H := Lib.hid (held_bad A n c T M at_ w hn hc hR ok)
  clear hR ok
  go_enter Try.func31, Try.ntmps31
  go_wp2_with fail
  refine H.out.mono ?_
  rintro e w1 ⟨x, rfl, hx, hb⟩
  have hx1 : (x != 0) = true := by simpa using hx
  have hx2 : (x == 0) = false := by simpa using hx
  have HX := Lib.hid hx
  clear hx
  go_wp2_with fail
  go_ret2
  exact ⟨x, rfl, HX.out, hb⟩
set_option maxHeartbeats 400000 in
theorem get_none (A : Option Addr) (n c : Nat) (T : Nat → ByteArray) (M : Nat → Int) (at_ : Int) (w : World) (hn : n ≤ c) (hc : c ≤ 9223372036854775807) (hR : Rd w 2 (blobC T M) A n) (ok : OkS T M n) (h : at_ < 0 ∨ (n : Int) ≤ at_ ∨ M at_.toNat = 0) :
    Calls Try.prog 31 #[.slice A n c, .int .i64 at_] w fun e w' => e = .returned (.tuple #[.string ⟨#[]⟩, .int .i64 4]) ∧ Below w.heap.size w w' := by
  have H := Lib.hid (held_none A n c T M at_ w hn hc hR ok h)
  clear hR ok h
  go_enter Try.func31, Try.ntmps31
  go_wp2_with fail
  refine H.out.mono ?_
  rintro e w1 ⟨rfl, hb⟩
  go_wp2_with fail
  go_ret2
  exact ⟨rfl, hb⟩
set_option maxHeartbeats 400000 in
theorem get_ok (A : Option Addr) (n c : Nat) (T : Nat → ByteArray) (M : Nat → Int) (k : Nat) (w : World) (hn : n ≤ c) (hc : c ≤ 9223372036854775807) (hR : Rd w 2 (blobC T M) A n) (ok : OkS T M n) (hk : k < n) (hm : M k ≠ 0) :
    Calls Try.prog 31 #[.slice A n c, .int .i64 k] w fun e w' => e = .returned (.tuple #[.string (T k), .int .i64 0]) ∧ Below w.heap.size w w' := by
  have H := Lib.hid (held_ok A n c T M k w hn hc hR ok hk hm)
  obtain ⟨b, off, rfl, hb0, hcell⟩ := hR (by omega)
  have c0 : w.cell? ⟨b, off + k * 2, none⟩ = some (.string (T k)) := hcell k hk 0 _ rfl
  clear hR ok hm hcell
  go_enter Try.func31, Try.ntmps31
  go_wp2_with fail
  refine H.out.mono ?_
  rintro e w1 ⟨rfl, hb⟩
  have c0' : w1.cell? ⟨b, off + k * 2, none⟩ = some (.string (T k)) := (hb.cell (p := ⟨b, _, none⟩) hb0).trans c0
  clear c0
  go_wp2_with fail
  go_ret2
  exact ⟨rfl, hb⟩
end Go.Proofs.Ytelpommocgmdjaa
