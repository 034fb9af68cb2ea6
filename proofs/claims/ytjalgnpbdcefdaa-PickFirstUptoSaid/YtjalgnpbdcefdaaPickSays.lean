/- What a letter says: box.Says, roadref3.Message. -/
import Derived.Test.YtjalgnpbdcefdaaLetter
import Derived.Test.YtjalgnpbdcefdaaKeep
namespace Go.Proofs.Ytjalgnpbdcefdaa
open Go.RowKit
set_option linter.unusedVariables false
/-- the text Down -/
def downS : ByteArray := ⟨#[68, 111, 119, 110]⟩
/-- what a letter says -/
def LT.says (l : LT) : VT := if l.kind = 2 then .node 5 0 downS 2 (fun i => if i = 0 then .node 6 l.frm ⟨#[]⟩ 0 (fun _ => .none) else .node 2 l.num ⟨#[]⟩ 0 (fun _ => .none)) else l.val
theorem says_two {l : LT} (h : l.kind = 2) : l.says = .node 5 0 downS 2 (fun i => if i = 0 then .node 6 l.frm ⟨#[]⟩ 0 (fun _ => .none) else .node 2 l.num ⟨#[]⟩ 0 (fun _ => .none)) := if_pos h
theorem says_val {l : LT} (h : ¬ l.kind = 2) : l.says = l.val := if_neg h
theorem says_many (l : LT) : l.says.many ≤ l.val.many + 3 := by
  by_cases h : l.kind = 2
  · rw [says_two h]; simp [VT.many, sumTo]
  · rw [says_val h]; omega
theorem leaf_V (w : World) (S : Nat → Prop) (k m : Int) : (VT.node k m ⟨#[]⟩ 0 (fun _ => .none)).isV w S [.int .i64 k, .int .i64 m, .string ⟨#[]⟩, .slice none 0 0] := ⟨none, 0, rfl, Nat.le_refl _, by omega, fun _ => rfl, fun h => by omega⟩
/-- a built message of one that is down -/
theorem down_isV (w : World) (b : Nat) (S : Nat → Prop) (hS : S b) (hb : b < w.heap.size) (f m : Int)
    (hc : ∀ j u, [Value.int .i64 6, .int .i64 f, .string ⟨#[]⟩, .slice none 0 0, .int .i64 2, .int .i64 m, .string ⟨#[]⟩, .slice none 0 0][j]? = some u → w.cell? ⟨b, j, none⟩ = some u) :
    (VT.node 5 0 downS 2 (fun i => if i = 0 then .node 6 f ⟨#[]⟩ 0 (fun _ => .none) else .node 2 m ⟨#[]⟩ 0 (fun _ => .none))).isV w S [.int .i64 5, .int .i64 0, .string downS, .slice (some ⟨b, 0, none⟩) 2 2] := by
  refine ⟨some ⟨b, 0, none⟩, 2, rfl, Nat.le_refl _, by omega, fun h => by simp at h, fun _ => ⟨b, 0, rfl, hb, hS, fun i => if i = 0 then [.int .i64 6, .int .i64 f, .string ⟨#[]⟩, .slice none 0 0] else [.int .i64 2, .int .i64 m, .string ⟨#[]⟩, .slice none 0 0], fun i hi => ?_⟩⟩
  match i, hi with
  | 0, _ => exact ⟨leaf_V w S 6 f, fun j u hu => by
      simp only [Nat.zero_mul, Nat.zero_add]
      match j, hu with
      | 0, hu => exact hc 0 u hu
      | 1, hu => exact hc 1 u hu
      | 2, hu => exact hc 2 u hu
      | 3, hu => exact hc 3 u hu
      | j + 4, hu => simp at hu⟩
  | 1, _ => exact ⟨leaf_V w S 2 m, fun j u hu => by
      simp only [Nat.zero_add, Nat.one_mul]
      match j, hu with
      | 0, hu => exact hc 4 u hu
      | 1, hu => exact hc 5 u hu
      | 2, hu => exact hc 6 u hu
      | 3, hu => exact hc 7 u hu
      | j + 4, hu => simp at hu⟩
theorem isV_grown {w w' : World} {S S' : Nat → Prop} {row : Option Nat} {t : VT} {cs : List Value} (h : t.isV w S cs) (hg : w.grownBy w' row) (hS : ∀ b, S b → b < w.heap.size → some b ≠ row ∧ S' b) : t.isV w' S' cs :=
  isV_frame hg.size (fun b hs hl => ⟨(hS b hs hl).2, hg.block b hl (hS b hs hl).1⟩) h
/-- a box of a value, still empty -/
structure ZB (wx : World) (b : Nat) : Prop where
  c0 : wx.cell? ⟨b, 0, none⟩ = some (.int .i64 0)
  c1 : wx.cell? ⟨b, 1, none⟩ = some (.int .i64 0)
  c2 : wx.cell? ⟨b, 2, none⟩ = some (.string ⟨#[]⟩)
  c3 : wx.cell? ⟨b, 3, none⟩ = some (.slice none 0 0)
  fr : ∀ o, wx.frozen? ⟨b, o, none⟩ = false
  sz : b < wx.heap.size
theorem ZB.grown {wx wy : World} {b : Nat} {row : Option Nat} (h : ZB wx b) (hg : wx.grownBy wy row) (hr : row ≠ some b) : ZB wy b := by
  have k0 : ∀ o, wy.cell? ⟨b, o, none⟩ = wx.cell? ⟨b, o, none⟩ := fun o => grown_cell hg h.sz (fun e => hr e.symm)
  exact ⟨(k0 _).trans h.c0, (k0 _).trans h.c1, (k0 _).trans h.c2, (k0 _).trans h.c3, fun o => (grown_frozen hg h.sz (fun e => hr e.symm)).trans (h.fr o), by have := hg.size; have := h.sz; omega⟩
theorem ZB.below {wx wy : World} {b : Nat} (h : ZB wx b) (hb : Below wx.heap.size wx wy) : ZB wy b := h.grown (grown_below (g := none) hb) (by simp)
theorem ZB.new (w : World) : ZB (w.alloc (.cells #[.int .i64 0, .int .i64 0, .string ⟨#[]⟩, .slice none 0 0] 27)) w.heap.size := by
  constructor
  any_goals (first | simp [go_sem] | (intro o; simp [go_sem]))
def ans4 (W : World) (b : Nat) (u0 u1 u2 u3 : Value) : World := (((W.setCell ⟨b, 0, none⟩ u0).setCell ⟨b, 1, none⟩ u1).setCell ⟨b, 2, none⟩ u2).setCell ⟨b, 3, none⟩ u3
theorem ans4_grown (W : World) (b : Nat) (u0 u1 u2 u3 : Value) : W.grownBy (ans4 W b u0 u1 u2 u3) (some b) := grown_set (grown_set (grown_set (grown_set (grown_self _ _) _) _) _) _
/-- an answer in a box of its own stays what it is -/
theorem ans4_isV {W : World} {B b : Nat} {S : Nat → Prop} {t : VT} {cs : List Value} (h : t.isV W S cs) (hB : ∀ k, k < W.heap.size → S k → k ≠ b) (u0 u1 u2 u3 : Value) : t.isV (ans4 W b u0 u1 u2 u3) S cs :=
  isV_grown h (ans4_grown W b u0 u1 u2 u3) (fun k hk hl => ⟨fun e => by injection e with e; exact hB k hl hk e, hk⟩)
def SaysPost (l : LT) (w : World) (e : Ending) (w' : World) : Prop := ∃ cs', e = .returned (.agg cs'.toArray) ∧ l.says.isV w' (fun b => w.heap.size ≤ b) cs' ∧ Below w.heap.size w w'
def MsgPost (l : LT) (S : Nat → Prop) (w : World) (e : Ending) (w' : World) : Prop := ∃ cs', e = .returned (.agg cs'.toArray) ∧ l.says.isV w' (fun b => S b ∨ w.heap.size ≤ b) cs' ∧ Below w.heap.size w w'
theorem own_any_v (t : VT) (cs : List Value) (S : Nat → Prop) (w : World) (h : t.isV w S cs) (hm : t.many ≤ 4194304) : Calls Try.prog 49 #[.agg cs.toArray] w (CopyPost t w) := by
  obtain ⟨k, m, s, A, n, c, rfl⟩ := isV_cells h
  have H := Lib.hid h
  have hB := (Below.refl w.heap.size w).alloc (Nat.le_refl _) (.cells #[.int .i64 k, .int .i64 m, .string s, .slice A n c] 27)
  have hB2 := hB.alloc (by simp) (.cells #[.int .i64 0, .int .i64 0, .string ⟨#[]⟩, .slice none 0 0] 27)
  have hZB := ZB.new (w.alloc (.cells #[.int .i64 k, .int .i64 m, .string s, .slice A n c] 27))
  obtain ⟨W, hW⟩ : ∃ W, W = (w.alloc (.cells #[.int .i64 k, .int .i64 m, .string s, .slice A n c] 27)).alloc (.cells #[.int .i64 0, .int .i64 0, .string ⟨#[]⟩, .slice none 0 0] 27) := ⟨_, rfl⟩
  rw [← hW] at hB2 hZB
  have hZB : ZB W (w.heap.size + 1) := by simpa using hZB
  have HB2 := Lib.hid hB2
  have HZB := Lib.hid hZB
  have HZ := Lib.hid (show W.heap.size = w.heap.size + 2 by rw [hW]; simp)
  have HW := Lib.hid hW
  clear h hB hB2 hW hZB
  go_enter Try.func49, Try.ntmps49
  go_wp2_with fail
  rw [← HW.out]
  refine (copy_any t _ S _ (isV_below H.out HB2.out) hm).mono ?_
  rintro e w1 ⟨cs', rfl, hv, hb⟩
  obtain ⟨k', m', s', A', n', c', rfl⟩ := isV_cells hv
  obtain ⟨b0, b1, b2, b3, bf, bz⟩ := HZB.out.below hb
  have x0 : (w1.cell? ⟨w.heap.size + 1, 0, none⟩).isSome = true := by rw [b0]; rfl
  have x1 : (w1.cell? ⟨w.heap.size + 1, 1, none⟩).isSome = true := by rw [b1]; rfl
  have x2 : (w1.cell? ⟨w.heap.size + 1, 2, none⟩).isSome = true := by rw [b2]; rfl
  have x3 : (w1.cell? ⟨w.heap.size + 1, 3, none⟩).isSome = true := by rw [b3]; rfl
  have hz := HZ.out
  have HV := Lib.hid hv
  have HB := Lib.hid (HB2.out.trans (hb.mono (by omega)))
  clear hv hb
  go_wp2_with fail
  refine bodyPost_ret (v := .agg #[.int .i64 k', .int .i64 m', .string s', .slice A' n' c']) (by simp [results, Try.results49, go_sem, x0, x1, x2, x3]) rfl ?_
  exact ⟨[.int .i64 k', .int .i64 m', .string s', .slice A' n' c'], rfl, isV_mono (ans4_isV (B := 0) HV.out (fun b hb hs => by omega) _ _ _ _) (fun b _ hb => by omega), below_set (below_set (below_set (below_set HB.out (by omega)) (by omega)) (by omega)) (by omega)⟩
set_option maxHeartbeats 1000000 in
theorem says_any (l : LT) (cs : List Value) (S : Nat → Prop) (w : World) (h : l.isL w S cs) (hm : l.val.many ≤ 4194304) : Calls Try.prog 32 #[.agg cs.toArray] w (SaysPost l w) := by
  obtain ⟨k2, m2, s2, A2, n2, c2, rfl, hv⟩ := h
  obtain ⟨lk, lf, lt, ln, lx, lv⟩ := l
  dsimp only at hv hm ⊢
  have HV := Lib.hid hv
  have hB := (Below.refl w.heap.size w).alloc (Nat.le_refl _) (.cells #[.int .i64 lk, .int .i64 lf, .int .i64 lt, .int .i64 ln, .string lx, .int .i64 k2, .int .i64 m2, .string s2, .slice A2 n2 c2] 44)
  by_cases hk : lk = 2
  · subst hk
    have HB := Lib.hid hB
    clear hv hB
    go_enter Try.func32, Try.ntmps32
    go_wp2_with fail
    refine bodyPost_ret (v := .agg #[.int .i64 5, .int .i64 0, .string downS, .slice (some ⟨w.heap.size + 1 + 1, 0, none⟩) 2 2]) (by simp [results, Try.results32, go_sem, downS]) rfl ?_
    refine ⟨[.int .i64 5, .int .i64 0, .string downS, .slice (some ⟨w.heap.size + 1 + 1, 0, none⟩) 2 2], rfl, ?_, (HB.out.alloc (by simp) _).alloc (by simp; omega) _⟩
    rw [says_two rfl]
    refine down_isV _ _ _ (by omega) (by simp) lf ln ?_
    intro j u hu
    match j, hu with
    | 0, hu => simpa [go_sem] using hu
    | 1, hu => simpa [go_sem] using hu
    | 2, hu => simpa [go_sem] using hu
    | 3, hu => simpa [go_sem] using hu
    | 4, hu => simpa [go_sem] using hu
    | 5, hu => simpa [go_sem] using hu
    | 6, hu => simpa [go_sem] using hu
    | 7, hu => simpa [go_sem] using hu
    | j + 8, hu => simp at hu
  · have HK := Lib.hid hk
    have e1 : (lk == 2) = false := by simpa using hk
    clear hk
    have hB2 := hB.alloc (by simp) (.cells #[.int .i64 0, .int .i64 0, .string ⟨#[]⟩, .slice none 0 0] 27)
    have hZB := ZB.new (w.alloc (.cells #[.int .i64 lk, .int .i64 lf, .int .i64 lt, .int .i64 ln, .string lx, .int .i64 k2, .int .i64 m2, .string s2, .slice A2 n2 c2] 44))
    obtain ⟨W, hW⟩ : ∃ W, W = (w.alloc (.cells #[.int .i64 lk, .int .i64 lf, .int .i64 lt, .int .i64 ln, .string lx, .int .i64 k2, .int .i64 m2, .string s2, .slice A2 n2 c2] 44)).alloc (.cells #[.int .i64 0, .int .i64 0, .string ⟨#[]⟩, .slice none 0 0] 27) := ⟨_, rfl⟩
    rw [← hW] at hB2 hZB
    have hZB : ZB W (w.heap.size + 1) := by simpa using hZB
    have HB2 := Lib.hid hB2
    have HZB := Lib.hid hZB
    have HZ := Lib.hid (show W.heap.size = w.heap.size + 2 by rw [hW]; simp)
    have HW := Lib.hid hW
    clear hv hB hB2 hW hZB
    go_enter Try.func32, Try.ntmps32
    go_wp2_with fail
    rw [← HW.out]
    refine (own_any_v lv _ S _ (isV_below HV.out HB2.out) hm).mono ?_
    rintro e w1 ⟨cs', rfl, hv, hb⟩
    obtain ⟨k', m', s', A', n', c', rfl⟩ := isV_cells hv
    obtain ⟨b0, b1, b2, b3, bf, bz⟩ := HZB.out.below hb
    have x0 : (w1.cell? ⟨w.heap.size + 1, 0, none⟩).isSome = true := by rw [b0]; rfl
    have x1 : (w1.cell? ⟨w.heap.size + 1, 1, none⟩).isSome = true := by rw [b1]; rfl
    have x2 : (w1.cell? ⟨w.heap.size + 1, 2, none⟩).isSome = true := by rw [b2]; rfl
    have x3 : (w1.cell? ⟨w.heap.size + 1, 3, none⟩).isSome = true := by rw [b3]; rfl
    have hz := HZ.out
    have HV1 := Lib.hid hv
    have HB := Lib.hid (HB2.out.trans (hb.mono (by omega)))
    clear hv hb
    go_wp2_with fail
    refine bodyPost_ret (v := .agg #[.int .i64 k', .int .i64 m', .string s', .slice A' n' c']) (by simp [results, Try.results32, go_sem, x0, x1, x2, x3]) rfl ?_
    refine ⟨[.int .i64 k', .int .i64 m', .string s', .slice A' n' c'], rfl, ?_, below_set (below_set (below_set (below_set HB.out (by omega)) (by omega)) (by omega)) (by omega)⟩
    rw [says_val HK.out]
    exact isV_mono (ans4_isV (B := 0) HV1.out (fun b hb hs => by omega) _ _ _ _) (fun b _ hb => by omega)
set_option maxHeartbeats 1000000 in
theorem msg_any (l : LT) (cs : List Value) (S : Nat → Prop) (w : World) (h : l.isL w S cs) (hm : l.val.many ≤ 4194304) : Calls Try.prog 17 #[.agg cs.toArray] w (MsgPost l S w) := by
  obtain ⟨k2, m2, s2, A2, n2, c2, rfl, hv⟩ := h
  obtain ⟨lk, lf, lt, ln, lx, lv⟩ := l
  dsimp only at hv hm ⊢
  have HV := Lib.hid hv
  have hB := (Below.refl w.heap.size w).alloc (Nat.le_refl _) (.cells #[.int .i64 lk, .int .i64 lf, .int .i64 lt, .int .i64 ln, .string lx, .int .i64 k2, .int .i64 m2, .string s2, .slice A2 n2 c2] 44)
  by_cases hk : lk = 2
  · subst hk
    have HB := Lib.hid hB
    clear hv hB
    go_enter Try.func17, Try.ntmps17
    go_wp2_with fail
    refine bodyPost_ret (v := .agg #[.int .i64 5, .int .i64 0, .string downS, .slice (some ⟨w.heap.size + 1 + 1, 0, none⟩) 2 2]) (by simp [results, Try.results17, go_sem, downS]) rfl ?_
    refine ⟨[.int .i64 5, .int .i64 0, .string downS, .slice (some ⟨w.heap.size + 1 + 1, 0, none⟩) 2 2], rfl, ?_, (HB.out.alloc (by simp) _).alloc (by simp; omega) _⟩
    rw [says_two rfl]
    refine down_isV _ _ _ (.inr (by omega)) (by simp) lf ln ?_
    intro j u hu
    match j, hu with
    | 0, hu => simpa [go_sem] using hu
    | 1, hu => simpa [go_sem] using hu
    | 2, hu => simpa [go_sem] using hu
    | 3, hu => simpa [go_sem] using hu
    | 4, hu => simpa [go_sem] using hu
    | 5, hu => simpa [go_sem] using hu
    | 6, hu => simpa [go_sem] using hu
    | 7, hu => simpa [go_sem] using hu
    | j + 8, hu => simp at hu
  · have HK := Lib.hid hk
    have e1 : (lk == 2) = false := by simpa using hk
    clear hk
    have HB := Lib.hid hB
    clear hv hB
    go_enter Try.func17, Try.ntmps17
    go_wp2_with fail
    refine bodyPost_ret (v := .agg #[.int .i64 k2, .int .i64 m2, .string s2, .slice A2 n2 c2]) (by simp [results, Try.results17, go_sem]) rfl ?_
    refine ⟨[.int .i64 k2, .int .i64 m2, .string s2, .slice A2 n2 c2], rfl, ?_, HB.out.alloc (by simp) _⟩
    rw [says_val HK.out]
    exact isV_mono (isV_below HV.out (HB.out.alloc (by simp) _)) (fun b _ hb => .inl hb)
end Go.Proofs.Ytjalgnpbdcefdaa
