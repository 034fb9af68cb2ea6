/- heap.At. -/
import Derived.Test.YtkdbnkkdohkhjaaHeapRead
import Derived.Deep.DeepCutAuto
namespace Go.Proofs.Ytkdbnkkdohkhjaa
open Go.RowKit
set_option linter.unusedVariables false
def AtPost (h : List Nat) (at_ : Int) (w : World) (e : Ending) (w' : World) : Prop :=
  (∃ a : Nat, at_ = a ∧ ReadsOb h a ∧ ∃ pA pc, e = .returned (.tuple #[.agg #[.int .i64 (a : Int), .int .i64 (kdR h a : Nat), .int .i64 (nmR h a), .string (txR h a), .slice pA (paR h a).length pc], .int .i64 0]) ∧ OwnU w' w.heap.size (.slice pA (paR h a).length pc) (paR h a) ∧ Below w.heap.size w w') ∨
  (¬ (∃ a : Nat, at_ = a ∧ ReadsOb h a) ∧ ∃ x : Int, x ≠ 0 ∧ e = .returned (.tuple #[.agg #[.int .i64 0, .int .i64 0, .int .i64 0, .string ⟨#[]⟩, .slice none 0 0], .int .i64 x]) ∧ Below w.heap.size w w' ∧ x = errA h at_)
/-- the box of the answer, still empty -/
structure AB (b : Nat) (wx : World) : Prop where
  a0 : wx.cell? ⟨b, 0, none⟩ = some (.int .i64 0)
  a1 : wx.cell? ⟨b, 1, none⟩ = some (.int .i64 0)
  a2 : wx.cell? ⟨b, 2, none⟩ = some (.int .i64 0)
  a3 : wx.cell? ⟨b, 3, none⟩ = some (.string ⟨#[]⟩)
  a4 : wx.cell? ⟨b, 4, none⟩ = some (.slice none 0 0)
  fa : ∀ o, wx.frozen? ⟨b, o, none⟩ = false
  hz : b < wx.heap.size
theorem AB.new (w : World) : AB w.heap.size (w.alloc (.cells #[.int .i64 0, .int .i64 0, .int .i64 0, .string ⟨#[]⟩, .slice none 0 0] 33)) := by
  constructor
  any_goals (first | simp [go_sem] | (intro o; simp [go_sem]))
theorem AB.below {b : Nat} {w w' : World} (h : AB b w) (hb : Below w.heap.size w w') : AB b w' := by
  have k := fun o => hb.cell (p := ⟨b, o, none⟩) h.hz
  exact ⟨(k 0).trans h.a0, (k 1).trans h.a1, (k 2).trans h.a2, (k 3).trans h.a3, (k 4).trans h.a4, fun o => (hb.frozen (p := ⟨b, o, none⟩) h.hz).trans (h.fa o), by have := hb.size; have := h.hz; omega⟩
set_option maxHeartbeats 4000000 in
set_option maxRecDepth 100000 in
theorem At_any (h : List Nat) (hA : Option Addr) (hc : Nat) (at_ : Int) (w : World) (hH : Su w (.slice hA h.length hc) h) (h64 : All64 h) (hlen : h.length ≤ 17592186044416) :
    Calls Try.prog 11 #[.slice hA h.length hc, .int .i64 at_] w (AtPost h at_ w) := by
  have HH := Lib.hid hH
  have H64 := Lib.hid h64
  clear hH h64
  go_enter Try.func11, Try.ntmps11
  go_wp2_with fail
  have hAB := AB.new w
  have hW : Below w.heap.size w (w.alloc (.cells #[.int .i64 0, .int .i64 0, .int .i64 0, .string ⟨#[]⟩, .slice none 0 0] 33)) := (Below.refl _ _).alloc (Nat.le_refl _) _
  refine (read_any h hA hc at_ _ (HH.out.below hW) H64.out hlen).mono ?_
  rintro e w2 hR
  have h1s : (w.alloc (.cells #[.int .i64 0, .int .i64 0, .int .i64 0, .string ⟨#[]⟩, .slice none 0 0] 33)).heap.size = w.heap.size + 1 := by simp
  generalize hw1 : w.alloc (.cells #[.int .i64 0, .int .i64 0, .int .i64 0, .string ⟨#[]⟩, .slice none 0 0] 33) = w1 at *
  rcases hR with ⟨a, rfl, hok, pA, pc, rfl, hO, hb⟩ | ⟨hno, x, hx, rfl, hb, hxe⟩
  · have hAB2 := hAB.below hb
    have HO := Lib.hid hO
    have HB := Lib.hid hb
    have HOK := Lib.hid hok
    have HW := Lib.hid hW
    have HW1 := Lib.hid hw1
    obtain ⟨a0, a1, a2, a3, a4, fa, hz⟩ := hAB2
    clear hO hb hok hW hw1 hAB
    have x0 : (w2.cell? ⟨w.heap.size, 0, none⟩).isSome = true := by rw [a0]; rfl
    have x1 : (w2.cell? ⟨w.heap.size, 1, none⟩).isSome = true := by rw [a1]; rfl
    have x2 : (w2.cell? ⟨w.heap.size, 2, none⟩).isSome = true := by rw [a2]; rfl
    have x3 : (w2.cell? ⟨w.heap.size, 3, none⟩).isSome = true := by rw [a3]; rfl
    have x4 : (w2.cell? ⟨w.heap.size, 4, none⟩).isSome = true := by rw [a4]; rfl
    go_wp2_with fail
    refine bodyPost_ret (v := .tuple #[.agg #[.int .i64 (a : Int), .int .i64 (kdR h a : Nat), .int .i64 (nmR h a), .string (txR h a), .slice pA (paR h a).length pc], .int .i64 0]) (by simp [results, Try.results11, go_sem, x0, x1, x2, x3, x4, hz]) rfl ?_
    have hB2 : Below w.heap.size w w2 := below_grown HW.out HW.out.size (grown_below (g := none) HB.out) (fun g hg => by cases hg)
    have hO2 : OwnU _ (w.heap.size + 1) (.slice pA (paR h a).length pc) (paR h a) := ((HO.out.mono (by omega)).put5 (b := w.heap.size) (by omega) (.int .i64 (a : Int)) (.int .i64 (kdR h a : Nat)) (.int .i64 (nmR h a)) (.string (txR h a)) (.slice pA (paR h a).length pc)).alloc (.cells #[.int .i64 (a : Int), .int .i64 (kdR h a : Nat), .int .i64 (nmR h a), .string (txR h a), .slice pA (paR h a).length pc] 33)
    exact .inl ⟨a, rfl, HOK.out, pA, pc, rfl, hO2.mono (by omega), (below_set (below_set (below_set (below_set (below_set hB2 (Nat.le_refl _)) (Nat.le_refl _)) (Nat.le_refl _)) (Nat.le_refl _)) (Nat.le_refl _)).alloc (by simp; omega) _⟩
  · have hAB2 := hAB.below hb
    have HB := Lib.hid hb
    have HNO := Lib.hid hno
    have HX := Lib.hid hx
    have HXE := Lib.hid hxe
    have HW := Lib.hid hW
    obtain ⟨a0, a1, a2, a3, a4, fa, hz⟩ := hAB2
    clear hb hno hx hxe hW hw1 hAB
    have x0 : (w2.cell? ⟨w.heap.size, 0, none⟩).isSome = true := by rw [a0]; rfl
    have x1 : (w2.cell? ⟨w.heap.size, 1, none⟩).isSome = true := by rw [a1]; rfl
    have x2 : (w2.cell? ⟨w.heap.size, 2, none⟩).isSome = true := by rw [a2]; rfl
    have x3 : (w2.cell? ⟨w.heap.size, 3, none⟩).isSome = true := by rw [a3]; rfl
    have x4 : (w2.cell? ⟨w.heap.size, 4, none⟩).isSome = true := by rw [a4]; rfl
    go_wp2_with fail
    refine bodyPost_ret (v := .tuple #[.agg #[.int .i64 0, .int .i64 0, .int .i64 0, .string ⟨#[]⟩, .slice none 0 0], .int .i64 x]) (by simp [results, Try.results11, go_sem, x0, x1, x2, x3, x4, hz]) rfl ?_
    have hB2 : Below w.heap.size w w2 := below_grown HW.out HW.out.size (grown_below (g := none) HB.out) (fun g hg => by cases hg)
    exact .inr ⟨HNO.out, x, HX.out, rfl, (below_set (below_set (below_set (below_set (below_set hB2 (Nat.le_refl _)) (Nat.le_refl _)) (Nat.le_refl _)) (Nat.le_refl _)) (Nat.le_refl _)).alloc (by simp; omega) _, HXE.out⟩
end Go.Proofs.Ytkdbnkkdohkhjaa
