/- Contracts of package blob: Let. -/
import Derived.Test.YtelpommocgmdjaaBlobOps
namespace Go.Proofs.Ytelpommocgmdjaa
open Go.RowKit

def updF {α : Type} (f : Nat → α) (k : Nat) (x : α) : Nat → α := fun i => if i = k then x else f i
theorem blobC_len (T : Nat → ByteArray) (M : Nat → Int) : ∀ k, (blobC T M k).length = 2 := fun _ => rfl
theorem blobC_one (T : Nat → ByteArray) (M : Nat → Int) : ∀ k u, u ∈ blobC T M k → u.oneCell' = true := fun k u h => by
  simp [blobC] at h
  rcases h with rfl | rfl <;> rfl
theorem ok_bounds {T : Nat → ByteArray} {M : Nat → Int} {n k : Nat} (ok : OkS T M n) (hk : k < n) : 0 ≤ M k ∧ M k ≤ 1000 ∧ (T k).size ≤ 64 ∧ (M k = 0 → (T k).toList = []) := by
  have h := (ok.2 k hk).1
  simp only [badB, Bool.or_eq_false_iff, decide_eq_false_iff_not, Bool.and_eq_false_iff, beq_eq_false_iff_ne, Bool.not_eq_false', List.isEmpty_iff] at h
  refine ⟨by omega, by omega, by omega, fun e => ?_⟩
  rcases h.2 with h | h
  · exact absurd e h
  · exact h
theorem set_many (T : Nat → ByteArray) (M : Nat → Int) (n k : Nat) (x : Int) : (flatC (blobC T M) n).set (k * 2 + 1) (.int .i64 x) = flatC (blobC T (updF M k x)) n := by
  rw [flatC_set (blobC_len T M) (by omega)]
  apply flatC_congr
  intro i _
  unfold updC updF blobC
  by_cases e : i = k <;> simp [e]
theorem set_text (T : Nat → ByteArray) (M : Nat → Int) (n k : Nat) (x : ByteArray) : (flatC (blobC T M) n).set (k * 2) (.string x) = flatC (blobC (updF T k x) M) n := by
  have := flatC_set (blobC_len T M) (n := n) (k := k) (j := 0) (by omega) (.string x)
  rw [Nat.add_zero] at this
  rw [this]
  apply flatC_congr
  intro i _
  unfold updC updF blobC
  by_cases e : i = k <;> simp [e]

def LetErr (w : World) (e : Ending) (w' : World) : Prop := ∃ x : Int, e = .returned (.tuple #[.slice none 0 0, .bool false, .int .i64 x]) ∧ x ≠ 0 ∧ Below w.heap.size w w'
set_option maxHeartbeats 400000 in
theorem let_err (A : Option Addr) (n c : Nat) (T : Nat → ByteArray) (M : Nat → Int) (at_ : Int) (w : World) (hn : n ≤ c) (hc : c ≤ 9223372036854775807) (hR : Rd w 2 (blobC T M) A n) (h : ¬ OkS T M n ∨ at_ < 0 ∨ (n : Int) ≤ at_ ∨ M at_.toNat = 0) :
    Calls Try.prog 32 #[.slice A n c, .int .i64 at_] w (LetErr w) := by
  have H : Calls Try.prog 69 #[.slice A n c, .int .i64 at_] w (ErrPost w) := by
    by_cases ok : OkS T M n
    · refine (held_none A n c T M at_ w hn hc hR ok ?_).mono fun _ _ ⟨he, hb⟩ => ⟨4, he, by omega, hb⟩
      rcases h with h | h
      · exact absurd ok h
      · exact h
    · exact held_bad A n c T M at_ w hn hc hR ok
  have H := Lib.hid H
  clear hR h
  go_enter Try.func32, Try.ntmps32
  go_wp2_with fail
  refine H.out.mono ?_
  rintro e w1 ⟨x, rfl, hx, hb⟩
  have hx1 : (x != 0) = true := by simpa using hx
  have hx2 : (x == 0) = false := by simpa using hx
  have HX := Lib.hid hx
  clear hx
  go_wp2_with fail
  go_ret3
  exact ⟨x, rfl, HX.out, hb⟩
def LetPost (n : Nat) (g : Nat → List Value) (gone : Bool) (w : World) (e : Ending) (w' : World) : Prop := ∃ v, e = .returned (.tuple #[v, .bool gone, .int .i64 0]) ∧ w'.ownsRow w.heap.size 70 2 v n (flatC g n) ∧ Below w.heap.size w w'
set_option maxRecDepth 100000 in
set_option maxHeartbeats 1000000 in
theorem let_more (A : Option Addr) (n c : Nat) (T : Nat → ByteArray) (M : Nat → Int) (k : Nat) (w : World) (hn : n ≤ c) (hc : c ≤ 9223372036854775807) (hR : Rd w 2 (blobC T M) A n) (ok : OkS T M n) (hk : k < n) (hm : 1 < M k) :
    Calls Try.prog 32 #[.slice A n c, .int .i64 k] w (LetPost n (blobC T (updF M k (M k - 1))) false w) := by
  have H := Lib.hid (held_ok A n c T M k w hn hc hR ok hk (by omega))
  have h60 := ok.1
  have hkb := ok_bounds ok hk
  have HR := Lib.hid hR
  have HS := Lib.hid (set_many T M n k (M k - 1))
  obtain ⟨m, hm0⟩ : ∃ m, M k = m := ⟨_, rfl⟩
  rw [hm0] at hm hkb HS ⊢
  have HM := Lib.hid hm0
  have hm1 : m ≤ 1000 := hkb.2.1
  clear hR ok hm0 hkb
  go_enter Try.func32, Try.ntmps32
  go_wp2_with fail
  refine H.out.mono ?_
  rintro e w1 ⟨rfl, hb⟩
  go_wp2_with fail
  refine (cloneB A n c (blobC T M) _ (HR.out.below hb) (blobC_len T M) (blobC_one T M) (fun h => by obtain ⟨b, off, e, _⟩ := HR.out (by omega); rw [h] at e; cases e) (by omega)).mono ?_
  rintro e w2 ⟨v, rfl, hown, hb2⟩
  have hB : Below w.heap.size w w2 := hb.trans (hb2.mono hb.size)
  obtain ⟨g, cap, rfl, hbase, hlt, hnc, hcm⟩ := own_form hown (by omega)
  have hown := own_mono hown hb.size
  have c1 : w2.cell? ⟨g, k * 2 + 1, none⟩ = some (.int .i64 m) := by
    rw [hown.cellAt _ (by omega), flatC_get (blobC_len T M) hk (by omega), ← HM.out]; rfl
  have f1 : w2.frozen? ⟨g, k * 2 + 1, none⟩ = false := hown.frozenAt _
  have hs := hown.stored (k * 2 + 1) (.int .i64 (m - 1))
  rw [HS.out] at hs
  have HO := Lib.hid hs
  have HBB := Lib.hid (hB.setCell (p := ⟨g, k * 2 + 1, none⟩) (show w.heap.size ≤ g from Nat.le_trans hb.size hbase) (.int .i64 (m - 1)))
  clear hs hown hb2 hbase
  have i1 : (k : Int) < (n : Int) := by omega
  have z1 : (m - 1 == 0) = false := by simp; omega
  have c2 : (w2.setCell ⟨g, k * 2 + 1, none⟩ (.int .i64 (m - 1))).cell? ⟨g, k * 2 + 1, none⟩ = some (.int .i64 (m - 1)) := World.cell?_setCell_same _ _ _ c1
  clear hB hb
  go_wp2_with fail
  go_quiet (fail)
  go_wp2_with fail
  go_ret3
  exact ⟨_, rfl, HO.out.1, below_drewN HBB.out _⟩
set_option maxRecDepth 100000 in
set_option maxHeartbeats 1000000 in
theorem let_last (A : Option Addr) (n c : Nat) (T : Nat → ByteArray) (M : Nat → Int) (k : Nat) (w : World) (hn : n ≤ c) (hc : c ≤ 9223372036854775807) (hR : Rd w 2 (blobC T M) A n) (ok : OkS T M n) (hk : k < n) (hm : M k = 1) :
    Calls Try.prog 32 #[.slice A n c, .int .i64 k] w (LetPost n (blobC (updF T k ⟨#[]⟩) (updF M k 0)) true w) := by
  have H := Lib.hid (held_ok A n c T M k w hn hc hR ok hk (by omega))
  have h60 := ok.1
  have hkb := ok_bounds ok hk
  have HR := Lib.hid hR
  have HS := Lib.hid (set_many T M n k 0)
  have HS2 := Lib.hid (set_text T (updF M k 0) n k ⟨#[]⟩)
  have HM := Lib.hid hm
  clear hR ok hm hkb
  go_enter Try.func32, Try.ntmps32
  go_wp2_with fail
  refine H.out.mono ?_
  rintro e w1 ⟨rfl, hb⟩
  go_wp2_with fail
  refine (cloneB A n c (blobC T M) _ (HR.out.below hb) (blobC_len T M) (blobC_one T M) (fun h => by obtain ⟨b, off, e, _⟩ := HR.out (by omega); rw [h] at e; cases e) (by omega)).mono ?_
  rintro e w2 ⟨v, rfl, hown, hb2⟩
  have hB : Below w.heap.size w w2 := hb.trans (hb2.mono hb.size)
  obtain ⟨g, cap, rfl, hbase, hlt, hnc, hcm⟩ := own_form hown (by omega)
  have hown := own_mono hown hb.size
  have c1 : w2.cell? ⟨g, k * 2 + 1, none⟩ = some (.int .i64 1) := by
    rw [hown.cellAt _ (by omega), flatC_get (blobC_len T M) hk (by omega), ← HM.out]; rfl
  have f1 : w2.frozen? ⟨g, k * 2 + 1, none⟩ = false := hown.frozenAt _
  obtain ⟨hs, _⟩ := hown.stored (k * 2 + 1) (.int .i64 0)
  rw [HS.out] at hs
  have c2 : (w2.setCell ⟨g, k * 2 + 1, none⟩ (.int .i64 0)).cell? ⟨g, k * 2 + 1, none⟩ = some (.int .i64 0) := World.cell?_setCell_same _ _ _ c1
  have c3 : (w2.setCell ⟨g, k * 2 + 1, none⟩ (.int .i64 0)).cell? ⟨g, k * 2, none⟩ = some (.string (T k)) := by
    have := flatC_get (blobC_len T (updF M k 0)) hk (j := 0) (by omega)
    rw [Nat.add_zero] at this
    rw [hs.cellAt _ (by omega), this]; rfl
  have f3 : (w2.setCell ⟨g, k * 2 + 1, none⟩ (.int .i64 0)).frozen? ⟨g, k * 2, none⟩ = false := hs.frozenAt _
  obtain ⟨hs2, _⟩ := hs.stored (k * 2) (.string ⟨#[]⟩)
  rw [HS2.out] at hs2
  have c4 : ((w2.setCell ⟨g, k * 2 + 1, none⟩ (.int .i64 0)).setCell ⟨g, k * 2, none⟩ (.string ⟨#[]⟩)).cell? ⟨g, k * 2 + 1, none⟩ = some (.int .i64 0) := by
    rw [hs2.cellAt _ (by omega), flatC_get (blobC_len _ _) hk (by omega)]
    simp [blobC, updF]
  have HO := Lib.hid hs2
  have HBB := Lib.hid ((hB.setCell (p := ⟨g, k * 2 + 1, none⟩) (show w.heap.size ≤ g from Nat.le_trans hb.size hbase) (.int .i64 0)).setCell (p := ⟨g, k * 2, none⟩) (show w.heap.size ≤ g from Nat.le_trans hb.size hbase) (.string ⟨#[]⟩))
  clear hs hs2 hown hb2 hbase
  have i1 : (k : Int) < (n : Int) := by omega
  clear hB hb
  go_wp2_with fail
  go_quiet (fail)
  go_wp2_with fail
  go_ret3
  exact ⟨_, rfl, HO.out, below_drewN HBB.out _⟩
end Go.Proofs.Ytelpommocgmdjaa
