/- Contracts of package blob: Hold. -/
import Derived.Test.YtelpommocgmdjaaBlobLet
namespace Go.Proofs.Ytelpommocgmdjaa
open Go.RowKit

def freeB (M : Nat → Int) : Nat → Bool := fun k => M k == 0
set_option maxHeartbeats 400000 in
theorem hold1_any (t : ByteArray) (m : Int) (w : World) :
    Calls Try.prog 67 #[.agg #[.string t, .int .i64 m]] w fun e w' => e = .returned (.bool (m == 0)) ∧ Below w.heap.size w w' := by
  go_enter Try.func67, Try.ntmps67
  go_wp2_with fail
  go_ret
  exact ⟨rfl, (Below.refl _ _).alloc (Nat.le_refl _) _⟩
theorem hold1_enters : Enters Try.prog 67 := fun _ _ => by kernel_rfl
theorem free_any (A : Option Addr) (n c : Nat) (T : Nat → ByteArray) (M : Nat → Int) (w : World) (hn : n ≤ 9223372036854775807) (hR : Rd w 2 (blobC T M) A n) :
    Calls Try.prog 66 #[.slice A n c, .func (.func 67) #[] #[]] w fun e w' => e = .returned (.int .i64 (ixOf (freeB M) n)) ∧ Below w.heap.size w w' :=
  ixB_rd A n c 67 #[] (fun k => .string (T k)) (fun k => .int .i64 (M k)) (freeB M) w hn hR hold1_enters
    fun W hW k _ => (hold1_any (T k) (M k) W).mono fun _ _ ⟨he, hb⟩ => ⟨he, hW.trans (hb.mono hW.size)⟩
theorem own_blob_set {w : World} {base g cap n k : Nat} {T : Nat → ByteArray} {M : Nat → Int} (h : w.ownsRow base 70 2 (.slice (some ⟨g, 0, none⟩) n cap) n (flatC (blobC T M) n)) (hk : k < n) (x : ByteArray) (y : Int) :
    w.cell? ⟨g, k * 2, none⟩ = some (.string (T k)) ∧ w.cell? ⟨g, k * 2 + 1, none⟩ = some (.int .i64 (M k)) ∧ w.frozen? ⟨g, k * 2, none⟩ = false ∧ w.frozen? ⟨g, k * 2 + 1, none⟩ = false ∧
    ((w.setCell ⟨g, k * 2, none⟩ (.string x)).setCell ⟨g, k * 2 + 1, none⟩ (.int .i64 y)).ownsRow base 70 2 (.slice (some ⟨g, 0, none⟩) n cap) n (flatC (blobC (updF T k x) (updF M k y)) n) := by
  have e0 := flatC_get (blobC_len T M) hk (j := 0) (by omega)
  rw [Nat.add_zero] at e0
  refine ⟨by rw [h.cellAt _ (by omega), e0]; rfl, by rw [h.cellAt _ (by omega), flatC_get (blobC_len T M) hk (by omega)]; rfl, h.frozenAt _, h.frozenAt _, ?_⟩
  have h1 := (h.stored (k * 2) (.string x)).1
  rw [set_text] at h1
  have h2 := (h1.stored (k * 2 + 1) (.int .i64 y)).1
  rw [set_many] at h2
  exact h2
def HoldErr (w : World) (e : Ending) (w' : World) : Prop := ∃ x : Int, e = .returned (.tuple #[.slice none 0 0, .int .i64 0, .int .i64 x]) ∧ x ≠ 0 ∧ Below w.heap.size w w'
def HoldPost (n k : Nat) (g : Nat → List Value) (w : World) (e : Ending) (w' : World) : Prop := ∃ v, e = .returned (.tuple #[v, .int .i64 k, .int .i64 0]) ∧ w'.ownsRow w.heap.size 70 2 v n (flatC g n) ∧ Below w.heap.size w w'
set_option maxHeartbeats 400000 in
theorem hold_bad (A : Option Addr) (n c : Nat) (T : Nat → ByteArray) (M : Nat → Int) (x : ByteArray) (w : World) (hn : n ≤ c) (hc : c ≤ 9223372036854775807) (hR : Rd w 2 (blobC T M) A n) (ok : ¬ OkS T M n) :
    Calls Try.prog 28 #[.slice A n c, .string x] w (HoldErr w) := by
  have H := Lib.hid (check_bad A n c T M w hn hc hR ok)
  clear hR ok
  go_enter Try.func28, Try.ntmps28
  go_wp2_with fail
  refine H.out.mono ?_
  rintro e w1 ⟨x, rfl, hx, hb⟩
  have hx1 : (x != 0) = true := by simpa using hx
  have hx2 : (x == 0) = false := by simpa using hx
  have HX := Lib.hid hx
  clear hx
  go_wp2_with fail
  go_ret3
  exact ⟨x, rfl, HX.out, hb⟩
set_option maxHeartbeats 400000 in
theorem hold_long (A : Option Addr) (n c : Nat) (T : Nat → ByteArray) (M : Nat → Int) (x : ByteArray) (w : World) (hn : n ≤ c) (hc : c ≤ 9223372036854775807) (hR : Rd w 2 (blobC T M) A n) (ok : OkS T M n) (hx : 64 < x.size) :
    Calls Try.prog 28 #[.slice A n c, .string x] w (HoldErr w) := by
  have H := Lib.hid (check_ok A n c T M w hn hc hR ok)
  clear hR ok
  go_enter Try.func28, Try.ntmps28
  go_wp2_with fail
  refine H.out.mono ?_
  rintro e w1 ⟨rfl, hb⟩
  go_wp2_with fail
  go_ret3
  exact ⟨2, rfl, by omega, hb⟩
set_option maxRecDepth 100000 in
set_option maxHeartbeats 1000000 in
theorem hold_hit (A : Option Addr) (n c : Nat) (T : Nat → ByteArray) (M : Nat → Int) (x : ByteArray) (k : Nat) (w : World) (hn : n ≤ c) (hc : c ≤ 9223372036854775807) (hR : Rd w 2 (blobC T M) A n) (ok : OkS T M n) (hx : x.size ≤ 64)
    (hk : k < n) (hf : ixOf (hitB T M x) n = k) (hm : M k ≠ 1000) :
    Calls Try.prog 28 #[.slice A n c, .string x] w (HoldPost n k (blobC (updF T k x) (updF M k (M k + 1))) w) := by
  have H := Lib.hid (check_ok A n c T M w hn hc hR ok)
  have h60 := ok.1
  have hkb := ok_bounds ok hk
  have HR := Lib.hid hR
  have HF := Lib.hid hf
  obtain ⟨b, off, hA, hb0, hcell⟩ := hR (by omega)
  have HA := Lib.hid hA
  obtain ⟨m, hm0⟩ : ∃ m, M k = m := ⟨_, rfl⟩
  have c0 : w.cell? ⟨b, off + k * 2 + 1, none⟩ = some (.int .i64 m) := by rw [hcell k hk 1 _ rfl, hm0]
  rw [hm0] at hm hkb ⊢
  have HM := Lib.hid hm0
  have m1 : 0 ≤ m := hkb.1
  have m2 : m ≤ 1000 := hkb.2.1
  have m3 : (m == 1000) = false := by simpa using hm
  subst hA
  clear hR ok hm0 hkb hm hcell HA hf
  have k1 : ((k : Int) == 60) = false := by simp; omega
  have k2 : ((k : Int) == (n : Int)) = false := by simp; omega
  go_enter Try.func28, Try.ntmps28
  go_wp2_with fail
  refine H.out.mono ?_
  rintro e w1 ⟨rfl, hb⟩
  go_wp2_with fail
  refine (find_any _ n c T M x _ (by omega) (HR.out.below hb)).mono ?_
  rintro e w2 ⟨rfl, hb2⟩
  rw [HF.out]
  have hB2 : Below w.heap.size w w2 := hb.trans (hb2.mono hb.size)
  have c1 : w2.cell? ⟨b, off + k * 2 + 1, none⟩ = some (.int .i64 m) := (hB2.cell (p := ⟨b, _, none⟩) hb0).trans c0
  clear c0 hb hb2
  go_wp2_with fail
  refine (cloneB _ n c (blobC T M) _ (HR.out.below hB2) (blobC_len T M) (blobC_one T M) (fun h => by cases h) (by omega)).mono ?_
  rintro e w3 ⟨v, rfl, hown, hb3⟩
  have hB3 : Below w.heap.size w w3 := hB2.trans (hb3.mono hB2.size)
  obtain ⟨g, cap, rfl, hbase, hlt, hnc, hcm⟩ := own_form hown (by omega)
  have hbase' : w.heap.size ≤ g := Nat.le_trans hB2.size hbase
  obtain ⟨d0, d1, d2, d3, hown2⟩ := own_blob_set (own_mono hown hB2.size) hk x (m + 1)
  rw [HM.out] at d1
  have HO := Lib.hid hown2
  have HBB := Lib.hid ((hB3.setCell (p := ⟨g, k * 2, none⟩) hbase' (.string x)).setCell (p := ⟨g, k * 2 + 1, none⟩) hbase' (.int .i64 (m + 1)))
  clear hown hown2 hb3 hB3 hbase hbase' hB2 c1
  go_wp2_with fail
  go_ret3
  exact ⟨_, rfl, HO.out, HBB.out⟩
set_option maxRecDepth 100000 in
set_option maxHeartbeats 1000000 in
theorem hold_free (A : Option Addr) (n c : Nat) (T : Nat → ByteArray) (M : Nat → Int) (x : ByteArray) (k : Nat) (w : World) (hn : n ≤ c) (hc : c ≤ 9223372036854775807) (hR : Rd w 2 (blobC T M) A n) (ok : OkS T M n) (hx : x.size ≤ 64)
    (hk : k < n) (hf : ixOf (hitB T M x) n = -1) (hf2 : ixOf (freeB M) n = k) (hm : M k ≠ 1000) :
    Calls Try.prog 28 #[.slice A n c, .string x] w (HoldPost n k (blobC (updF T k x) (updF M k (M k + 1))) w) := by
  have H := Lib.hid (check_ok A n c T M w hn hc hR ok)
  have h60 := ok.1
  have hkb := ok_bounds ok hk
  have HR := Lib.hid hR
  have HF := Lib.hid hf
  have HF2 := Lib.hid hf2
  obtain ⟨b, off, hA, hb0, hcell⟩ := hR (by omega)
  have HA := Lib.hid hA
  obtain ⟨m, hm0⟩ : ∃ m, M k = m := ⟨_, rfl⟩
  have c0 : w.cell? ⟨b, off + k * 2 + 1, none⟩ = some (.int .i64 m) := by rw [hcell k hk 1 _ rfl, hm0]
  rw [hm0] at hm hkb ⊢
  have HM := Lib.hid hm0
  have m1 : 0 ≤ m := hkb.1
  have m2 : m ≤ 1000 := hkb.2.1
  have m3 : (m == 1000) = false := by simpa using hm
  subst hA
  clear hR ok hm0 hkb hm hcell HA hf hf2
  have k1 : ((k : Int) == 60) = false := by simp; omega
  have k2 : ((k : Int) == (n : Int)) = false := by simp; omega
  go_enter Try.func28, Try.ntmps28
  go_wp2_with fail
  refine H.out.mono ?_
  rintro e w1 ⟨rfl, hb⟩
  go_wp2_with fail
  refine (find_any _ n c T M x _ (by omega) (HR.out.below hb)).mono ?_
  rintro e w2 ⟨rfl, hb2⟩
  rw [HF.out]
  have hB1 : Below w.heap.size w w2 := hb.trans (hb2.mono hb.size)
  clear hb hb2
  go_wp2_with fail
  refine (free_any _ n c T M _ (by omega) (HR.out.below hB1)).mono ?_
  rintro e w2 ⟨rfl, hb2⟩
  rw [HF2.out]
  have hB2 : Below w.heap.size w w2 := hB1.trans (hb2.mono hB1.size)
  have c1 : w2.cell? ⟨b, off + k * 2 + 1, none⟩ = some (.int .i64 m) := (hB2.cell (p := ⟨b, _, none⟩) hb0).trans c0
  clear c0 hb2 hB1
  go_wp2_with fail
  refine (cloneB _ n c (blobC T M) _ (HR.out.below hB2) (blobC_len T M) (blobC_one T M) (fun h => by cases h) (by omega)).mono ?_
  rintro e w3 ⟨v, rfl, hown, hb3⟩
  have hB3 : Below w.heap.size w w3 := hB2.trans (hb3.mono hB2.size)
  obtain ⟨g, cap, rfl, hbase, hlt, hnc, hcm⟩ := own_form hown (by omega)
  have hbase' : w.heap.size ≤ g := Nat.le_trans hB2.size hbase
  obtain ⟨d0, d1, d2, d3, hown2⟩ := own_blob_set (own_mono hown hB2.size) hk x (m + 1)
  rw [HM.out] at d1
  have HO := Lib.hid hown2
  have HBB := Lib.hid ((hB3.setCell (p := ⟨g, k * 2, none⟩) hbase' (.string x)).setCell (p := ⟨g, k * 2 + 1, none⟩) hbase' (.int .i64 (m + 1)))
  clear hown hown2 hb3 hB3 hbase hbase' hB2 c1
  go_wp2_with fail
  go_ret3
  exact ⟨_, rfl, HO.out, HBB.out⟩
end Go.Proofs.Ytelpommocgmdjaa
