/- Contracts of package limit: Take where it is granted. -/
import Derived.Test.YtjcegplockihfaaLimitTake
namespace Go.Proofs.Ytjcegplockihfaa
open Go.RowKit
set_option linter.unusedVariables false
theorem updF_updF {α : Type} (f : Nat → α) (k : Nat) (x y : α) : updF (updF f k x) k y = updF f k y := by
  funext i
  unfold updF
  by_cases e : i = k <;> simp [e]
theorem rowC_const (R : Nat → LRow) (k : Nat) (r : LRow) : rowC (updF R k r) k = rowC (fun _ => r) k := by simp [rowC, updF]
set_option maxRecDepth 100000 in
set_option maxHeartbeats 2000000 in
theorem take_ok (A : Option Addr) (n c : Nat) (R : Nat → LRow) (ref l d : Int) (k : Nat) (w : World) (hn : n ≤ c) (hc : c ≤ 9223372036854775807) (hR : Rd w 5 (rowC R) A n) (ok : OkL R n) (hf : ixOf (refB R ref) n = k) (hk : k < n) (h : OkT (R k) l d) :
    Calls Try.prog 15 #[.slice A n c, .int .i64 ref, .int .i64 l, .int .i64 d] w (RowsPost n (updF R k (taken (R k) l d)) w) := by
  have H := Lib.hid (begin_ok A n c R ref k w hn hc hR ok hf)
  have HR := Lib.hid hR
  obtain ⟨b, off, hA, hb0, hcell⟩ := hR (by omega)
  subst hA
  have c0 : w.cell? ⟨b, off + k * 5, none⟩ = some (.int .i64 (R k).ref) := hcell k hk 0 _ rfl
  have c1 : w.cell? ⟨b, off + k * 5 + 1, none⟩ = some (.int .i64 (R k).letters) := hcell k hk 1 _ rfl
  have c2 : w.cell? ⟨b, off + k * 5 + 2, none⟩ = some (.int .i64 (R k).cells) := hcell k hk 2 _ rfl
  have c3 : w.cell? ⟨b, off + k * 5 + 3, none⟩ = some (.int .i64 (R k).maxL) := hcell k hk 3 _ rfl
  have c4 : w.cell? ⟨b, off + k * 5 + 4, none⟩ = some (.int .i64 (R k).maxC) := hcell k hk 4 _ rfl
  have hfine := (ok.2 k hk).1
  have h100 := ok.1
  obtain ⟨r, hr⟩ : ∃ r, R k = r := ⟨_, rfl⟩
  have HK := Lib.hid hr
  rw [hr] at c0 c1 c2 c3 c4 hfine h ⊢
  obtain ⟨rr, rl, rc, rml, rmc⟩ := r
  unfold FineL at hfine
  unfold OkT at h
  unfold taken
  dsimp only at c0 c1 c2 c3 c4 hfine h ⊢
  obtain ⟨f1, f2, f3, f4, f5, f6⟩ := hfine
  obtain ⟨l1, l2, l3, l4⟩ := h
  have q1 : amtB l = true := by simpa [amtB] using l1
  have q2 : amtB d = true := by simpa [amtB] using l2
  clear hR ok hf hcell hr
  go_enter Try.func15, Try.ntmps15
  go_wp2_with fail
  refine H.out.mono ?_
  rintro e w1 ⟨rfl, hb⟩
  have hz := hb.size
  have hw1 : ∀ o, w1.cell? ⟨b, o, none⟩ = w.cell? ⟨b, o, none⟩ := fun o => hb.cell (p := ⟨b, o, none⟩) hb0
  rw [← hw1] at c0 c1 c2 c3 c4
  clear hw1
  go_wp2_with (go_at_call 45; refine (amount_any _ _).mono ?_; rintro e w' ⟨rfl, rfl⟩)
  refine (cloneL _ n c (rowC R) _ ((HR.out.below hb).alloc _) (rowC_len R) (rowC_one R) (fun h => by cases h) (by omega)).mono ?_
  rintro e w3 ⟨v, rfl, hown, hb3⟩
  have hB3 : Below w.heap.size w w3 := (hb.alloc hz _).trans (hb3.mono (by simp; omega))
  obtain ⟨g, cap, rfl, hbase, hlt, hnc, hcm⟩ := own_form hown (by omega)
  have hbase' : w.heap.size ≤ g := by simp at hbase; omega
  have hown1 := own_mono (base' := w.heap.size) hown (by simp; omega)
  obtain ⟨s1, t1⟩ := own_row_set hown1 hk (j := 1) (by omega) ⟨rr, rl + l, rc, rml, rmc⟩ (.int .i64 (rl + l)) (by simp [rowC, HK.out])
  have e1 : w3.cell? ⟨g, k * 5 + 1, none⟩ = some (.int .i64 rl) := by rw [own_row_cell hown1 hk 1 (by omega)]; simp [rowC, HK.out]
  obtain ⟨s2, t2⟩ := own_row_set t1 hk (j := 2) (by omega) ⟨rr, rl + l, rc + d, rml, rmc⟩ (.int .i64 (rc + d)) (by rw [rowC_const]; simp [rowC])
  have e2 : (w3.setCell ⟨g, k * 5 + 1, none⟩ (.int .i64 (rl + l))).cell? ⟨g, k * 5 + 2, none⟩ = some (.int .i64 rc) := by rw [own_row_cell t1 hk 2 (by omega), rowC_const]; simp [rowC]
  rw [updF_updF] at t2
  have HO := Lib.hid t2
  have HBB := Lib.hid ((hB3.setCell (p := ⟨g, k * 5 + 1, none⟩) hbase' (.int .i64 (rl + l))).setCell (p := ⟨g, k * 5 + 2, none⟩) hbase' (.int .i64 (rc + d)))
  clear hown hown1 t1 t2 hb3 hB3 hbase hbase' hb hz c0 c1 c2 c3 c4
  go_wp2_with fail
  go_ret2
  exact ⟨_, rfl, HO.out, HBB.out⟩
/-- Take, whatever is asked -/
def TakeRes (R : Nat → LRow) (n : Nat) (ref l d : Int) (w : World) (e : Ending) (w' : World) : Prop :=
  (RowsErr w e w' ∧ ¬ (OkL R n ∧ ∃ k, k < n ∧ ixOf (refB R ref) n = (k : Int) ∧ OkT (R k) l d)) ∨
  (∃ k : Nat, OkL R n ∧ k < n ∧ ixOf (refB R ref) n = k ∧ OkT (R k) l d ∧ RowsPost n (updF R k (taken (R k) l d)) w e w')
theorem take_any (A : Option Addr) (n c : Nat) (R : Nat → LRow) (ref l d : Int) (w : World) (hn : n ≤ c) (hc : c ≤ 9223372036854775807) (hR : Rd w 5 (rowC R) A n) :
    Calls Try.prog 15 #[.slice A n c, .int .i64 ref, .int .i64 l, .int .i64 d] w (TakeRes R n ref l d w) := by
  by_cases ok : OkL R n
  · rcases ixOf_cases (refB R ref) n with ⟨e, _⟩ | ⟨k, e, hk, hp, _⟩
    · refine (take_err0 A n c R ref l d w hn hc hR (.inr e)).mono fun _ _ h => .inl ⟨h, fun ⟨_, k, hk, hh, _⟩ => ?_⟩
      rw [e] at hh
      omega
    · by_cases ht : OkT (R k) l d
      · exact (take_ok A n c R ref l d k w hn hc hR ok e hk ht).mono fun _ _ h => .inr ⟨k, ok, hk, e, ht, h⟩
      · refine (take_err1 A n c R ref l d k w hn hc hR ok e hk ht).mono fun _ _ h => .inl ⟨h, fun ⟨_, k', hk', hh, ht'⟩ => ?_⟩
        rw [e] at hh
        obtain rfl : k = k' := by omega
        exact ht ht'
  · exact (take_err0 A n c R ref l d w hn hc hR (.inl ok)).mono fun _ _ h => .inl ⟨h, fun hh => ok hh.1⟩
end Go.Proofs.Ytjcegplockihfaa
