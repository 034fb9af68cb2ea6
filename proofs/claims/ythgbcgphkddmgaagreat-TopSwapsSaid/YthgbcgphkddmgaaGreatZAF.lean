/- What a letter says: box.Says, roadref3.Message. Contracts of package box: fits, Check. Rows with one element more or less: plain facts on their cells. pick.Take: the state of its walk, and the plain facts. -/
import Derived.Test.YthgbcgphkddmgaaGreatZAE
import Derived.Test.YthgbcgphkddmgaaGreatZAD
import Derived.Test.YthgbcgphkddmgaaGreatZAC
namespace Go.Proofs.YthgbcgphkddmgaaGreat
open Go.RowKit
set_option linter.unusedVariables false
/-- the text Down -/
def downS : ByteArray := ⟨#[68, 111, 119, 110]⟩
/-- what a letter says -/
def LT.says (l : LT) : VT := if l.kind = 2 then .node 5 0 downS 2 (fun i => if i = 0 then .node 6 l.frm ⟨#[]⟩ 0 (fun _ => .none) else .node 2 l.num ⟨#[]⟩ 0 (fun _ => .none)) else l.val
theorem says_two {l : LT} (h : l.kind = 2) : l.says = .node 5 0 downS 2 (fun i => if i = 0 then .node 6 l.frm ⟨#[]⟩ 0 (fun _ => .none) else .node 2 l.num ⟨#[]⟩ 0 (fun _ => .none)) := if_pos h
theorem says_val {l : LT} (h : ¬ l.kind = 2) : l.says = l.val := if_neg h
theorem says_many (l : LT) : l.says.many ≤ l.val.many + 3 := by
  by_cases h : l.kind = 2
  · rw [says_two h]; simp [VT.many, sumTo]
  · rw [says_val h]; omega
theorem leaf_V (w : World) (S : Nat → Prop) (k m : Int) : (VT.node k m ⟨#[]⟩ 0 (fun _ => .none)).isV w S [.int .i64 k, .int .i64 m, .string ⟨#[]⟩, .slice none 0 0] := ⟨none, 0, rfl, Nat.le_refl _, by omega, fun _ => rfl, fun h => by omega⟩
/-- a built message of one that is down -/
theorem down_isV (w : World) (b : Nat) (S : Nat → Prop) (hS : S b) (hb : b < w.heap.size) (f m : Int)
    (hc : ∀ j u, [Value.int .i64 6, .int .i64 f, .string ⟨#[]⟩, .slice none 0 0, .int .i64 2, .int .i64 m, .string ⟨#[]⟩, .slice none 0 0][j]? = some u → w.cell? ⟨b, j, none⟩ = some u) :
    (VT.node 5 0 downS 2 (fun i => if i = 0 then .node 6 f ⟨#[]⟩ 0 (fun _ => .none) else .node 2 m ⟨#[]⟩ 0 (fun _ => .none))).isV w S [.int .i64 5, .int .i64 0, .string downS, .slice (some ⟨b, 0, none⟩) 2 2] := by
  refine ⟨some ⟨b, 0, none⟩, 2, rfl, Nat.le_refl _, by omega, fun h => by simp at h, fun _ => ⟨b, 0, rfl, hb, hS, fun i => if i = 0 then [.int .i64 6, .int .i64 f, .string ⟨#[]⟩, .slice none 0 0] else [.int .i64 2, .int .i64 m, .string ⟨#[]⟩, .slice none 0 0], fun i hi => ?_⟩⟩
  match i, hi with
  | 0, _ => exact ⟨leaf_V w S 6 f, fun j u hu => by
      simp only [Nat.zero_mul, Nat.zero_add]
      match j, hu with
      | 0, hu => exact hc 0 u hu
      | 1, hu => exact hc 1 u hu
      | 2, hu => exact hc 2 u hu
      | 3, hu => exact hc 3 u hu
      | j + 4, hu => simp at hu⟩
  | 1, _ => exact ⟨leaf_V w S 2 m, fun j u hu => by
      simp only [Nat.zero_add, Nat.one_mul]
      match j, hu with
      | 0, hu => exact hc 4 u hu
      | 1, hu => exact hc 5 u hu
      | 2, hu => exact hc 6 u hu
      | 3, hu => exact hc 7 u hu
      | j + 4, hu => simp at hu⟩
theorem isV_grown {w w' : World} {S S' : Nat → Prop} {row : Option Nat} {t : VT} {cs : List Value} (h : t.isV w S cs) (hg : w.grownBy w' row) (hS : ∀ b, S b → b < w.heap.size → some b ≠ row ∧ S' b) : t.isV w' S' cs :=
  isV_frame hg.size (fun b hs hl => ⟨(hS b hs hl).2, hg.block b hl (hS b hs hl).1⟩) h
/-- a box of a value, still empty -/
structure ZB (wx : World) (b : Nat) : Prop where
  c0 : wx.cell? ⟨b, 0, none⟩ = some (.int .i64 0)
  c1 : wx.cell? ⟨b, 1, none⟩ = some (.int .i64 0)
  c2 : wx.cell? ⟨b, 2, none⟩ = some (.string ⟨#[]⟩)
  c3 : wx.cell? ⟨b, 3, none⟩ = some (.slice none 0 0)
  fr : ∀ o, wx.frozen? ⟨b, o, none⟩ = false
  sz : b < wx.heap.size
theorem ZB.grown {wx wy : World} {b : Nat} {row : Option Nat} (h : ZB wx b) (hg : wx.grownBy wy row) (hr : row ≠ some b) : ZB wy b := by
  have k0 : ∀ o, wy.cell? ⟨b, o, none⟩ = wx.cell? ⟨b, o, none⟩ := fun o => grown_cell hg h.sz (fun e => hr e.symm)
  exact ⟨(k0 _).trans h.c0, (k0 _).trans h.c1, (k0 _).trans h.c2, (k0 _).trans h.c3, fun o => (grown_frozen hg h.sz (fun e => hr e.symm)).trans (h.fr o), by have := hg.size; have := h.sz; omega⟩
theorem ZB.below {wx wy : World} {b : Nat} (h : ZB wx b) (hb : Below wx.heap.size wx wy) : ZB wy b := h.grown (grown_below (g := none) hb) (by simp)
theorem ZB.new (w : World) : ZB (w.alloc (.cells #[.int .i64 0, .int .i64 0, .string ⟨#[]⟩, .slice none 0 0] 36)) w.heap.size := by
  constructor
  any_goals (first | simp [go_sem] | (intro o; simp [go_sem]))
def ans4 (W : World) (b : Nat) (u0 u1 u2 u3 : Value) : World := (((W.setCell ⟨b, 0, none⟩ u0).setCell ⟨b, 1, none⟩ u1).setCell ⟨b, 2, none⟩ u2).setCell ⟨b, 3, none⟩ u3
theorem ans4_grown (W : World) (b : Nat) (u0 u1 u2 u3 : Value) : W.grownBy (ans4 W b u0 u1 u2 u3) (some b) := grown_set (grown_set (grown_set (grown_set (grown_self _ _) _) _) _) _
/-- an answer in a box of its own stays what it is -/
theorem ans4_isV {W : World} {B b : Nat} {S : Nat → Prop} {t : VT} {cs : List Value} (h : t.isV W S cs) (hB : ∀ k, k < W.heap.size → S k → k ≠ b) (u0 u1 u2 u3 : Value) : t.isV (ans4 W b u0 u1 u2 u3) S cs :=
  isV_grown h (ans4_grown W b u0 u1 u2 u3) (fun k hk hl => ⟨fun e => by injection e with e; exact hB k hl hk e, hk⟩)
def SaysPost (l : LT) (w : World) (e : Ending) (w' : World) : Prop := ∃ cs', e = .returned (.agg cs'.toArray) ∧ l.says.isV w' (fun b => w.heap.size ≤ b) cs' ∧ Below w.heap.size w w'
def MsgPost (l : LT) (S : Nat → Prop) (w : World) (e : Ending) (w' : World) : Prop := ∃ cs', e = .returned (.agg cs'.toArray) ∧ l.says.isV w' (fun b => S b ∨ w.heap.size ≤ b) cs' ∧ Below w.heap.size w w'
theorem own_any_v (t : VT) (cs : List Value) (S : Nat → Prop) (w : World) (h : t.isV w S cs) (hm : t.many ≤ 4194304) : Calls Tryz.prog 174 #[.agg cs.toArray] w (CopyPost t w) := by
  obtain ⟨k, m, s, A, n, c, rfl⟩ := isV_cells h
  have H := Lib.hid h
  have hB := (Below.refl w.heap.size w).alloc (Nat.le_refl _) (.cells #[.int .i64 k, .int .i64 m, .string s, .slice A n c] 36)
  have hB2 := hB.alloc (by simp) (.cells #[.int .i64 0, .int .i64 0, .string ⟨#[]⟩, .slice none 0 0] 36)
  have hZB := ZB.new (w.alloc (.cells #[.int .i64 k, .int .i64 m, .string s, .slice A n c] 36))
  obtain ⟨W, hW⟩ : ∃ W, W = (w.alloc (.cells #[.int .i64 k, .int .i64 m, .string s, .slice A n c] 36)).alloc (.cells #[.int .i64 0, .int .i64 0, .string ⟨#[]⟩, .slice none 0 0] 36) := ⟨_, rfl⟩
  rw [← hW] at hB2 hZB
  have hZB : ZB W (w.heap.size + 1) := by simpa using hZB
  have HB2 := Lib.hid hB2
  have HZB := Lib.hid hZB
  have HZ := Lib.hid (show W.heap.size = w.heap.size + 2 by rw [hW]; simp)
  have HW := Lib.hid hW
  clear h hB hB2 hW hZB
  go_enter Tryz.func174, Tryz.ntmps174
  go_wp2_with fail
  rw [← HW.out]
  refine (copy_any t _ S _ (isV_below H.out HB2.out) hm).mono ?_
  rintro e w1 ⟨cs', rfl, hv, hb⟩
  obtain ⟨k', m', s', A', n', c', rfl⟩ := isV_cells hv
  obtain ⟨b0, b1, b2, b3, bf, bz⟩ := HZB.out.below hb
  have x0 : (w1.cell? ⟨w.heap.size + 1, 0, none⟩).isSome = true := by rw [b0]; rfl
  have x1 : (w1.cell? ⟨w.heap.size + 1, 1, none⟩).isSome = true := by rw [b1]; rfl
  have x2 : (w1.cell? ⟨w.heap.size + 1, 2, none⟩).isSome = true := by rw [b2]; rfl
  have x3 : (w1.cell? ⟨w.heap.size + 1, 3, none⟩).isSome = true := by rw [b3]; rfl
  have hz := HZ.out
  have HV := Lib.hid hv
  have HB := Lib.hid (HB2.out.trans (hb.mono (by omega)))
  clear hv hb
  go_wp2_with fail
  refine bodyPost_ret (v := .agg #[.int .i64 k', .int .i64 m', .string s', .slice A' n' c']) (by simp [results, Tryz.results174, go_sem, x0, x1, x2, x3]) rfl ?_
  exact ⟨[.int .i64 k', .int .i64 m', .string s', .slice A' n' c'], rfl, isV_mono (ans4_isV (B := 0) HV.out (fun b hb hs => by omega) _ _ _ _) (fun b _ hb => by omega), below_set (below_set (below_set (below_set HB.out (by omega)) (by omega)) (by omega)) (by omega)⟩
set_option maxHeartbeats 1000000 in
theorem says_any (l : LT) (cs : List Value) (S : Nat → Prop) (w : World) (h : l.isL w S cs) (hm : l.val.many ≤ 4194304) : Calls Tryz.prog 137 #[.agg cs.toArray] w (SaysPost l w) := by
  obtain ⟨k2, m2, s2, A2, n2, c2, rfl, hv⟩ := h
  obtain ⟨lk, lf, lt, ln, lx, lv⟩ := l
  dsimp only at hv hm ⊢
  have HV := Lib.hid hv
  have hB := (Below.refl w.heap.size w).alloc (Nat.le_refl _) (.cells #[.int .i64 lk, .int .i64 lf, .int .i64 lt, .int .i64 ln, .string lx, .int .i64 k2, .int .i64 m2, .string s2, .slice A2 n2 c2] 154)
  by_cases hk : lk = 2
  · subst hk
    have HB := Lib.hid hB
    clear hv hB
    go_enter Tryz.func137, Tryz.ntmps137
    go_wp2_with fail
    refine bodyPost_ret (v := .agg #[.int .i64 5, .int .i64 0, .string downS, .slice (some ⟨w.heap.size + 1 + 1, 0, none⟩) 2 2]) (by simp [results, Tryz.results137, go_sem, downS]) rfl ?_
    refine ⟨[.int .i64 5, .int .i64 0, .string downS, .slice (some ⟨w.heap.size + 1 + 1, 0, none⟩) 2 2], rfl, ?_, (HB.out.alloc (by simp) _).alloc (by simp; omega) _⟩
    rw [says_two rfl]
    refine down_isV _ _ _ (by omega) (by simp) lf ln ?_
    intro j u hu
    match j, hu with
    | 0, hu => simpa [go_sem] using hu
    | 1, hu => simpa [go_sem] using hu
    | 2, hu => simpa [go_sem] using hu
    | 3, hu => simpa [go_sem] using hu
    | 4, hu => simpa [go_sem] using hu
    | 5, hu => simpa [go_sem] using hu
    | 6, hu => simpa [go_sem] using hu
    | 7, hu => simpa [go_sem] using hu
    | j + 8, hu => simp at hu
  · have HK := Lib.hid hk
    have e1 : (lk == 2) = false := by simpa using hk
    clear hk
    have hB2 := hB.alloc (by simp) (.cells #[.int .i64 0, .int .i64 0, .string ⟨#[]⟩, .slice none 0 0] 36)
    have hZB := ZB.new (w.alloc (.cells #[.int .i64 lk, .int .i64 lf, .int .i64 lt, .int .i64 ln, .string lx, .int .i64 k2, .int .i64 m2, .string s2, .slice A2 n2 c2] 154))
    obtain ⟨W, hW⟩ : ∃ W, W = (w.alloc (.cells #[.int .i64 lk, .int .i64 lf, .int .i64 lt, .int .i64 ln, .string lx, .int .i64 k2, .int .i64 m2, .string s2, .slice A2 n2 c2] 154)).alloc (.cells #[.int .i64 0, .int .i64 0, .string ⟨#[]⟩, .slice none 0 0] 36) := ⟨_, rfl⟩
    rw [← hW] at hB2 hZB
    have hZB : ZB W (w.heap.size + 1) := by simpa using hZB
    have HB2 := Lib.hid hB2
    have HZB := Lib.hid hZB
    have HZ := Lib.hid (show W.heap.size = w.heap.size + 2 by rw [hW]; simp)
    have HW := Lib.hid hW
    clear hv hB hB2 hW hZB
    go_enter Tryz.func137, Tryz.ntmps137
    go_wp2_with fail
    rw [← HW.out]
    refine (own_any_v lv _ S _ (isV_below HV.out HB2.out) hm).mono ?_
    rintro e w1 ⟨cs', rfl, hv, hb⟩
    obtain ⟨k', m', s', A', n', c', rfl⟩ := isV_cells hv
    obtain ⟨b0, b1, b2, b3, bf, bz⟩ := HZB.out.below hb
    have x0 : (w1.cell? ⟨w.heap.size + 1, 0, none⟩).isSome = true := by rw [b0]; rfl
    have x1 : (w1.cell? ⟨w.heap.size + 1, 1, none⟩).isSome = true := by rw [b1]; rfl
    have x2 : (w1.cell? ⟨w.heap.size + 1, 2, none⟩).isSome = true := by rw [b2]; rfl
    have x3 : (w1.cell? ⟨w.heap.size + 1, 3, none⟩).isSome = true := by rw [b3]; rfl
    have hz := HZ.out
    have HV1 := Lib.hid hv
    have HB := Lib.hid (HB2.out.trans (hb.mono (by omega)))
    clear hv hb
    go_wp2_with fail
    refine bodyPost_ret (v := .agg #[.int .i64 k', .int .i64 m', .string s', .slice A' n' c']) (by simp [results, Tryz.results137, go_sem, x0, x1, x2, x3]) rfl ?_
    refine ⟨[.int .i64 k', .int .i64 m', .string s', .slice A' n' c'], rfl, ?_, below_set (below_set (below_set (below_set HB.out (by omega)) (by omega)) (by omega)) (by omega)⟩
    rw [says_val HK.out]
    exact isV_mono (ans4_isV (B := 0) HV1.out (fun b hb hs => by omega) _ _ _ _) (fun b _ hb => by omega)
end Go.Proofs.YthgbcgphkddmgaaGreat
namespace Go.Proofs.YthgbcgphkddmgaaGreat
open Go.RowKit
set_option linter.unusedVariables false
set_option maxHeartbeats 400000 in
theorem ixLt_any (I : World → Prop) (A : Option Addr) (b off n c f : Nat) (cp : Array Value) (g0 g1 g2 g3 g4 g5 g6 g7 g8 : Nat → Value) (p : Nat → Bool) (w : World) (hn : n ≤ 9223372036854775807)
    (hA : 0 < n → A = some ⟨b, off, none⟩) (he : Enters Tryz.prog f)
    (hc : ∀ W, I W → ∀ k, k < n → W.cell? ⟨b, off + k * 9, none⟩ = some (g0 k) ∧ W.cell? ⟨b, off + k * 9 + 1, none⟩ = some (g1 k) ∧ W.cell? ⟨b, off + k * 9 + 2, none⟩ = some (g2 k) ∧ W.cell? ⟨b, off + k * 9 + 3, none⟩ = some (g3 k) ∧ W.cell? ⟨b, off + k * 9 + 4, none⟩ = some (g4 k) ∧ W.cell? ⟨b, off + k * 9 + 5, none⟩ = some (g5 k) ∧ W.cell? ⟨b, off + k * 9 + 6, none⟩ = some (g6 k) ∧ W.cell? ⟨b, off + k * 9 + 7, none⟩ = some (g7 k) ∧ W.cell? ⟨b, off + k * 9 + 8, none⟩ = some (g8 k))
    (hf : ∀ W, I W → ∀ k, k < n → Calls Tryz.prog f (#[.agg #[g0 k, g1 k, g2 k, g3 k, g4 k, g5 k, g6 k, g7 k, g8 k]] ++ cp) W fun e W' => e = .returned (.bool (p k)) ∧ I W') (hw : I w) :
    Calls Tryz.prog 220 #[.slice A n c, .func (.func f) #[] cp] w fun e w' => e = .returned (.int .i64 (ixOf p n)) ∧ I w' := by
  have HC := Lib.hid hc
  have HF := Lib.hid hf
  have HA := Lib.hid hA
  have HE := Lib.hid he
  clear hc hf hA he
  go_enter Tryz.func220, Tryz.ntmps220
  go_wp2_with fail
  go_loopw [5, 4, 8] (fun _ _ i wr => ∃ k : Nat, k ≤ n ∧ i = .int .i64 k ∧ (∀ j, j < k → p j = false) ∧ I wr) (fun _ _ i _ => n - (intOf i).toNat)
  case atStart => exact ⟨0, Nat.zero_le _, rfl, fun j hj => by omega, hw⟩
  case round =>
    obtain ⟨k, hk, rfl, hlow, hI⟩ := hrel
    have HL := Lib.hid hlow
    clear hlow
    by_cases hlt : k < n
    · obtain rfl := HA.out (by omega)
      obtain ⟨hc0, hc1, hc2, hc3, hc4, hc5, hc6, hc7, hc8⟩ := HC.out wr hI k hlt
      have hen := HE.out (#[.agg #[g0 k, g1 k, g2 k, g3 k, g4 k, g5 k, g6 k, g7 k, g8 k]] ++ cp) wr
      go_wp2_with fail
      refine (HF.out wr hI k hlt).mono ?_
      rintro e W' ⟨rfl, hI'⟩
      by_cases hp : p k = true
      · clear hc0 hc1 hc2 hc3 hc4 hc5 hc6 hc7 hc8 hen
        go_wp2_with fail
        go_ret
        exact ⟨ret_int (ixOf_found hlt hp HL.out).symm, hI'⟩
      · have hp' : p k = false := by simpa using hp
        clear hc0 hc1 hc2 hc3 hc4 hc5 hc6 hc7 hc8 hen hp
        go_wp2_with fail
        go_roundw
        case rel =>
          refine ⟨k + 1, by omega, by go_num, fun j hj => ?_, hI'⟩
          by_cases e : j = k
          · rw [e]; exact hp'
          · exact HL.out j (by omega)
        case measure => simp [intOf]; omega
    · go_wp2_with fail
      go_ret
      exact ⟨ret_int (ixOf_none fun j hj => HL.out j (by omega)).symm, hI⟩

set_option maxHeartbeats 400000 in
theorem cfL_any (I : World → Prop) (A : Option Addr) (b off n c f : Nat) (cp : Array Value) (g0 g1 g2 g3 g4 g5 g6 g7 g8 : Nat → Value) (p : Nat → Bool) (w : World) (hn : n ≤ 9223372036854775807)
    (hA : 0 < n → A = some ⟨b, off, none⟩) (he : Enters Tryz.prog f)
    (hc : ∀ W, I W → ∀ k, k < n → W.cell? ⟨b, off + k * 9, none⟩ = some (g0 k) ∧ W.cell? ⟨b, off + k * 9 + 1, none⟩ = some (g1 k) ∧ W.cell? ⟨b, off + k * 9 + 2, none⟩ = some (g2 k) ∧ W.cell? ⟨b, off + k * 9 + 3, none⟩ = some (g3 k) ∧ W.cell? ⟨b, off + k * 9 + 4, none⟩ = some (g4 k) ∧ W.cell? ⟨b, off + k * 9 + 5, none⟩ = some (g5 k) ∧ W.cell? ⟨b, off + k * 9 + 6, none⟩ = some (g6 k) ∧ W.cell? ⟨b, off + k * 9 + 7, none⟩ = some (g7 k) ∧ W.cell? ⟨b, off + k * 9 + 8, none⟩ = some (g8 k))
    (hf : ∀ W, I W → ∀ k, k < n → Calls Tryz.prog f (#[.agg #[g0 k, g1 k, g2 k, g3 k, g4 k, g5 k, g6 k, g7 k, g8 k]] ++ cp) W fun e W' => e = .returned (.bool (p k)) ∧ I W') (hw : I w) :
    Calls Tryz.prog 209 #[.slice A n c, .func (.func f) #[] cp] w fun e w' => e = .returned (.bool (anyOf p n)) ∧ I w' := by
  have H := Lib.hid (ixLt_any I A b off n c f cp g0 g1 g2 g3 g4 g5 g6 g7 g8 p w hn hA he hc hf hw)
  clear hc hf hA he hw
  go_enter Tryz.func209, Tryz.ntmps209
  go_wp2_with fail
  refine H.out.mono ?_
  rintro e W' ⟨rfl, hI'⟩
  go_wp2_with fail
  go_ret
  exact ⟨rfl, hI'⟩

def fitsB (k : Int) : Bool := k == 1 || k == 2
set_option maxHeartbeats 400000 in
theorem fits_any (k f t num : Int) (s : ByteArray) (k2 m2 : Int) (s2 : ByteArray) (A2 : Option Addr) (n2 c2 : Nat) (w : World) :
    Calls Tryz.prog 207 #[.agg #[.int .i64 k, .int .i64 f, .int .i64 t, .int .i64 num, .string s, .int .i64 k2, .int .i64 m2, .string s2, .slice A2 n2 c2]] w fun e w' => e = .returned (.bool (fitsB k)) ∧ Below w.heap.size w w' := by
  by_cases h1 : k = 1
  · subst h1
    go_enter Tryz.func207, Tryz.ntmps207
    go_wp2_with fail
    go_ret
    exact ⟨rfl, (Below.refl _ _).alloc (Nat.le_refl _) _⟩
  · have e1 : (k == 1) = false := by simpa using h1
    clear h1
    go_enter Tryz.func207, Tryz.ntmps207
    go_wp2_with fail
    go_ret
    exact ⟨ret_bool (by simp [fitsB, e1]), (Below.refl _ _).alloc (Nat.le_refl _) _⟩
set_option maxHeartbeats 400000 in
theorem check1_any (k f t num : Int) (s : ByteArray) (k2 m2 : Int) (s2 : ByteArray) (A2 : Option Addr) (n2 c2 : Nat) (w : World) :
    Calls Tryz.prog 210 #[.agg #[.int .i64 k, .int .i64 f, .int .i64 t, .int .i64 num, .string s, .int .i64 k2, .int .i64 m2, .string s2, .slice A2 n2 c2]] w fun e w' => e = .returned (.bool (!fitsB k)) ∧ Below w.heap.size w w' := by
  go_enter Tryz.func210, Tryz.ntmps210
  go_wp2_with fail
  refine (fits_any _ _ _ _ _ _ _ _ _ _ _ _).mono ?_
  rintro e w1 ⟨rfl, hb1⟩
  go_wp2_with fail
  go_ret
  exact ⟨rfl, ((Below.refl _ _).alloc (Nat.le_refl _) _).trans (hb1.mono (by simp))⟩
theorem check1_enters : Enters Tryz.prog 210 := fun _ _ => by kernel_rfl
theorem isL_ex {w : World} {S : Nat → Prop} {l : LT} {cs : List Value} (h : l.isL w S cs) : ∃ q : (Int × Int × ByteArray) × (Option Addr × Nat × Nat), cs = [.int .i64 l.kind, .int .i64 l.frm, .int .i64 l.to, .int .i64 l.num, .string l.text, .int .i64 q.1.1, .int .i64 q.1.2.1, .string q.1.2.2, .slice q.2.1 q.2.2.1 q.2.2.2] := by
  obtain ⟨k2, m2, s2, A2, n2, c2, h, _⟩ := h
  exact ⟨((k2, m2, s2), (A2, n2, c2)), h⟩
/-- a function of a letter asked of each, by ContainsFunc -/
theorem cfL_rd (fn n c : Nat) (cp : Array Value) (A : Option Addr) (arg : Nat → LT) (S : Nat → Prop) (p : Nat → Bool) (w : World) (hn : n ≤ 9223372036854775807) (hR : RdL w S A n arg) (he : Enters Tryz.prog fn)
    (hf : ∀ W, Below w.heap.size w W → ∀ i cs, i < n → (arg i).isL W S cs → Calls Tryz.prog fn (#[.agg cs.toArray] ++ cp) W fun e W' => e = .returned (.bool (p i)) ∧ Below w.heap.size w W') :
    Calls Tryz.prog 209 #[.slice A n c, .func (.func fn) #[] cp] w fun e w' => e = .returned (.bool (anyOf p n)) ∧ Below w.heap.size w w' := by
  by_cases h0 : 0 < n
  · obtain ⟨b, off, hA, hb, hSb, C, hC⟩ := hR h0
    have hq : ∀ i, ∃ q : (Int × Int × ByteArray) × (Option Addr × Nat × Nat), i < n → C i = [.int .i64 (arg i).kind, .int .i64 (arg i).frm, .int .i64 (arg i).to, .int .i64 (arg i).num, .string (arg i).text, .int .i64 q.1.1, .int .i64 q.1.2.1, .string q.1.2.2, .slice q.2.1 q.2.2.1 q.2.2.2] := fun i => by
      by_cases hi : i < n
      · obtain ⟨q, hq⟩ := isL_ex (hC i hi).1
        exact ⟨q, fun _ => hq⟩
      · exact ⟨((0, 0, ⟨#[]⟩), (none, 0, 0)), fun h => absurd h hi⟩
    obtain ⟨Q, hQ⟩ := Classical.axiomOfChoice hq
    refine cfL_any (fun W => Below w.heap.size w W) A b off n c fn cp (fun i => .int .i64 (arg i).kind) (fun i => .int .i64 (arg i).frm) (fun i => .int .i64 (arg i).to) (fun i => .int .i64 (arg i).num) (fun i => .string (arg i).text) (fun i => .int .i64 (Q i).1.1) (fun i => .int .i64 (Q i).1.2.1) (fun i => .string (Q i).1.2.2) (fun i => .slice (Q i).2.1 (Q i).2.2.1 (Q i).2.2.2) p w hn (fun _ => hA) he (fun W hW k hk => ?_) (fun W hW k hk => ?_) (Below.refl _ _)
    · have hcell : ∀ o, W.cell? ⟨b, o, none⟩ = w.cell? ⟨b, o, none⟩ := fun o => hW.cell (p := ⟨b, o, none⟩) hb
      simp only [hcell]
      have hk' := (hC k hk).2
      rw [hQ k hk] at hk'
      exact ⟨hk' 0 _ rfl, hk' 1 _ rfl, hk' 2 _ rfl, hk' 3 _ rfl, hk' 4 _ rfl, hk' 5 _ rfl, hk' 6 _ rfl, hk' 7 _ rfl, hk' 8 _ rfl⟩
    · have h1 := isL_frame (w' := W) (S' := S) hW.size (fun b hs hlt => ⟨hs, hW.block b hlt⟩) (hC k hk).1
      rw [hQ k hk] at h1
      exact hf W hW k _ hk h1
  · refine cfL_any (fun W => Below w.heap.size w W) A 0 0 n c fn cp (fun _ => undef) (fun _ => undef) (fun _ => undef) (fun _ => undef) (fun _ => undef) (fun _ => undef) (fun _ => undef) (fun _ => undef) (fun _ => undef) p w hn (fun h => absurd h h0) he (fun W hW k hk => by omega) (fun W hW k hk => by omega) (Below.refl _ _)
theorem notFits_any (n c : Nat) (A : Option Addr) (arg : Nat → LT) (S : Nat → Prop) (w : World) (hn : n ≤ 9223372036854775807) (hR : RdL w S A n arg) :
    Calls Tryz.prog 209 #[.slice A n c, .func (.func 210) #[] #[]] w fun e w' => e = .returned (.bool (anyOf (fun i => !fitsB (arg i).kind) n)) ∧ Below w.heap.size w w' :=
  cfL_rd 210 n c #[] A arg S _ w hn hR check1_enters fun W hW i cs hi h => by
    obtain ⟨k2, m2, s2, A2, n2, c2, rfl, _⟩ := h
    exact (check1_any _ _ _ _ _ _ _ _ _ _ _ W).mono fun e W' ⟨he, hb⟩ => ⟨he, hW.trans (hb.mono hW.size)⟩
def OkBox (n : Nat) (at_ : Int) (arg : Nat → LT) : Prop := n ≤ 60 ∧ 0 ≤ at_ ∧ at_ ≤ n ∧ ∀ i, i < n → fitsB (arg i).kind = true
def ChkPost (Ok : Prop) (w : World) (e : Ending) (w' : World) : Prop := ∃ x : Int, e = .returned (.int .i64 x) ∧ (x = 0 ↔ Ok) ∧ Below w.heap.size w w'
set_option maxRecDepth 100000 in
set_option maxHeartbeats 1000000 in
theorem boxCheck_any (n c : Nat) (A : Option Addr) (at_ : Int) (arg : Nat → LT) (S : Nat → Prop) (w : World) (hn : n ≤ 9223372036854775807) (hR : RdL w S A n arg) :
    Calls Tryz.prog 193 #[.agg #[.slice A n c, .int .i64 at_]] w (ChkPost (OkBox n at_ arg) w) := by
  have hR0 : ∀ o : Obj, Calls Tryz.prog 209 #[.slice A n c, .func (.func 210) #[] #[]] (w.alloc o) fun e w' => e = .returned (.bool (anyOf (fun i => !fitsB (arg i).kind) n)) ∧ Below (w.alloc o).heap.size (w.alloc o) w' := fun o =>
    notFits_any n c A arg S _ hn (hR.below ((Below.refl _ _).alloc (Nat.le_refl _) _))
  have HR := Lib.hid hR0
  clear hR hR0
  by_cases h60 : 60 < n
  · go_enter Tryz.func193, Tryz.ntmps193
    go_wp2_with fail
    go_ret
    exact ⟨2, rfl, ⟨fun h => by omega, fun h => by have := h.1; omega⟩, (Below.refl _ _).alloc (Nat.le_refl _) _⟩
  by_cases h0 : at_ < 0
  · have d0 : decide (at_ < 0) = true := by simpa using h0
    go_enter Tryz.func193, Tryz.ntmps193
    go_wp2_with fail
    go_ret
    exact ⟨1, rfl, ⟨fun h => by omega, fun h => by have := h.2.1; omega⟩, (Below.refl _ _).alloc (Nat.le_refl _) _⟩
  by_cases h1 : (n : Int) < at_
  · have d0 : decide (at_ < 0) = false := by simpa using h0
    go_enter Tryz.func193, Tryz.ntmps193
    go_wp2_with fail
    go_ret
    exact ⟨1, rfl, ⟨fun h => by omega, fun h => by have := h.2.2.1; omega⟩, (Below.refl _ _).alloc (Nat.le_refl _) _⟩
  have d0 : decide (at_ < 0) = false := by simpa using h0
  have d1 : decide ((n : Int) < at_) = false := by simpa using h1
  by_cases ha : anyOf (fun i => !fitsB (arg i).kind) n = true
  · have HA := Lib.hid ha
    clear ha
    go_enter Tryz.func193, Tryz.ntmps193
    go_wp2_with fail
    refine (HR.out _).mono ?_
    rintro e w1 ⟨rfl, hb1⟩
    rw [HA.out]
    go_wp2_with fail
    go_ret
    refine ⟨3, rfl, ⟨fun h => by omega, fun h => ?_⟩, ((Below.refl _ _).alloc (Nat.le_refl _) _).trans (hb1.mono (by simp))⟩
    obtain ⟨i, hi, hp⟩ := anyOf_true.1 HA.out
    rw [h.2.2.2 i hi] at hp
    cases hp
  · have HA := Lib.hid (show anyOf (fun i => !fitsB (arg i).kind) n = false by simpa using ha)
    clear ha
    go_enter Tryz.func193, Tryz.ntmps193
    go_wp2_with fail
    refine (HR.out _).mono ?_
    rintro e w1 ⟨rfl, hb1⟩
    rw [HA.out]
    go_wp2_with fail
    go_ret
    exact ⟨0, rfl, ⟨fun _ => ⟨by omega, by omega, by omega, fun i hi => by simpa using anyOf_false.1 HA.out i hi⟩, fun _ => rfl⟩, ((Below.refl _ _).alloc (Nat.le_refl _) _).trans (hb1.mono (by simp))⟩
end Go.Proofs.YthgbcgphkddmgaaGreat
namespace Go.Proofs.YthgbcgphkddmgaaGreat
open Go.RowKit
set_option linter.unusedVariables false
theorem flatC_split (g : Nat → List Value) (p m : Nat) : flatC g (p + m) = flatC g p ++ flatC (fun k => g (p + k)) m := by
  induction m with
  | zero => simp [flatC]
  | succ m ih => rw [show p + (m + 1) = (p + m) + 1 by omega, flatC, ih, flatC, List.append_assoc]
theorem flatC_take {g : Nat → List Value} {sz n p : Nat} (h : ∀ k, (g k).length = sz) (hp : p ≤ n) : (flatC g n).take (p * sz) = flatC g p := by
  obtain ⟨m, rfl⟩ : ∃ m, n = p + m := ⟨n - p, by omega⟩
  rw [flatC_split, List.take_append_of_le_length (by rw [flatC_length h]; omega), List.take_of_length_le (by rw [flatC_length h]; omega)]
theorem flatC_drop {g : Nat → List Value} {sz n p : Nat} (h : ∀ k, (g k).length = sz) (hp : p ≤ n) : (flatC g n).drop (p * sz) = flatC (fun k => g (p + k)) (n - p) := by
  obtain ⟨m, rfl⟩ : ∃ m, n = p + m := ⟨n - p, by omega⟩
  have hl := flatC_length h p
  rw [flatC_split, List.drop_append_of_le_length (by omega), List.drop_eq_nil_of_le (by omega), List.nil_append, Nat.add_sub_cancel_left]
def insF {α : Type} (f : Nat → α) (p : Nat) (x : α) : Nat → α := fun k => if k < p then f k else if k = p then x else f (k - 1)
def delF {α : Type} (f : Nat → α) (i : Nat) : Nat → α := fun k => if k < i then f k else f (k + 1)
theorem ins_flatG {g g' : Nat → List Value} {sz n p : Nat} {x : List Value} (h : ∀ k, (g k).length = sz) (hp : p ≤ n) (hg : g' = insF g p x) :
    (flatC g n).take (p * sz) ++ x ++ (flatC g n).drop (p * sz) = flatC g' (n + 1) := by
  subst hg
  rw [flatC_take h hp, flatC_drop h hp]
  obtain ⟨m, rfl⟩ : ∃ m, n = p + m := ⟨n - p, by omega⟩
  rw [Nat.add_sub_cancel_left, show p + m + 1 = p + (1 + m) by omega, flatC_split, flatC_split, ← List.append_assoc]
  congr 1
  · congr 1
    · exact flatC_congr fun k hk => by simp [insF, hk]
    · simp [flatC, insF]
  · refine flatC_congr fun k hk => ?_
    simp only [insF]
    rw [if_neg (by omega), if_neg (by omega)]
    congr 1
    omega
theorem del_flatG {g : Nat → List Value} {sz n i : Nat} (h : ∀ k, (g k).length = sz) (hi : i < n) : (flatC g n).take (i * sz) ++ (flatC g n).drop ((i + 1) * sz) = flatC (delF g i) (n - 1) := by
  rw [flatC_take h (by omega), flatC_drop h (by omega)]
  obtain ⟨m, rfl⟩ : ∃ m, n = i + 1 + m := ⟨n - (i + 1), by omega⟩
  rw [Nat.add_sub_cancel_left, show i + 1 + m - 1 = i + m by omega, flatC_split]
  congr 1
  · exact flatC_congr fun k hk => by simp [delF, hk]
  · refine flatC_congr fun k hk => ?_
    simp only [delF]
    rw [if_neg (by omega)]
    congr 1
    omega
theorem cell_newL (W : World) (xs : List Value) (t : TypeId) (n : Nat) (hn : W.heap.size = n) : ∀ j u, xs[j]? = some u → (W.alloc (.cells xs.toArray t)).cell? ((⟨n, 0, none⟩ : Addr).add j) = some u := by
  intro j u hu
  rw [Addr.add_lit, World.cell?_alloc_at (w := W) xs.toArray t n (0 + j) hn.symm]
  simpa using hu
end Go.Proofs.YthgbcgphkddmgaaGreat
namespace Go.Proofs.YthgbcgphkddmgaaGreat
open Go.RowKit
set_option linter.unusedVariables false
theorem says_many_le {l : LT} (h : l.val.many ≤ 4194304) : l.says.many ≤ 4194304 := by
  by_cases hk : l.kind = 2
  · rw [says_two hk]; simp [VT.many, sumTo]
  · rw [says_val hk]; exact h
theorem isL_grown {w w' : World} {S S' : Nat → Prop} {row : Option Nat} {l : LT} {cs : List Value} (h : l.isL w S cs) (hg : w.grownBy w' row) (hS : ∀ b, S b → b < w.heap.size → some b ≠ row ∧ S' b) : l.isL w' S' cs :=
  isL_frame hg.size (fun b hs hl => ⟨(hS b hs hl).2, hg.block b hl (hS b hs hl).1⟩) h
/-- letters without the one at a place -/
def cutA (arg : Nat → LT) (i : Nat) : Nat → LT := fun j => if j < i then arg j else arg (j + 1)
/-- what is asked from one place to another -/
def asks (arg : Nat → LT) (a b : Nat) : List VT := (List.range (b - a)).map (fun i => (arg (a + i)).says)
theorem asks_self (arg : Nat → LT) (a : Nat) : asks arg a a = [] := by simp [asks]
theorem asks_succ (arg : Nat → LT) {a b : Nat} (h : a ≤ b) : asks arg a (b + 1) = asks arg a b ++ [(arg b).says] := by
  unfold asks
  rw [show b + 1 - a = (b - a) + 1 by omega, List.range_succ, List.map_append]
  simp [show a + (b - a) = b by omega]
/-- a function that is asked: what it answers, and what it changes -/
structure TakesOk (B fn : Nat) (cp : Array Value) (q : VT → Bool) (row : Option Nat) (I : List VT → World → Prop) : Prop where
  enters : Enters Tryz.prog fn
  low : ∀ k, row = some k → k < B
  keep : ∀ L W W', I L W → B ≤ W.heap.size → Below B W W' → I L W'
  call : ∀ L t cs S W, I L W → t.isV W S cs → t.many ≤ 4194304 → B ≤ W.heap.size → Calls Tryz.prog fn (#[.agg cs.toArray] ++ cp) W fun e W' => e = .returned (.bool (q t)) ∧ I (L ++ [t]) W' ∧ W.grownBy W' row
def zeroL : Value := .agg #[.int .i64 0, .int .i64 0, .int .i64 0, .int .i64 0, .string ⟨#[]⟩, .int .i64 0, .int .i64 0, .string ⟨#[]⟩, .slice none 0 0]
def TakeYes (n : Nat) (a : Nat) (arg : Nat → LT) (q : VT → Bool) (L : List VT) (row : Option Nat) (I : List VT → World → Prop) (w : World) (e : Ending) (w' : World) : Prop :=
  ∃ i, a ≤ i ∧ i < n ∧ (∀ j, a ≤ j → j < i → q (arg j).says = false) ∧ q (arg i).says = true ∧ ∃ A c xs, e = .returned (.tuple #[.agg #[.slice A (n - 1) c, .int .i64 0], .agg xs.toArray, .bool true, .int .i64 0]) ∧
    n - 1 ≤ c ∧ c ≤ 9223372036854775807 ∧ RdL w' (fun b => w.heap.size ≤ b) A (n - 1) (cutA arg i) ∧ (arg i).isL w' (fun b => w.heap.size ≤ b) xs ∧ I (L ++ asks arg a (i + 1)) w' ∧ w.grownBy w' row
def TakeNo (n : Nat) (a : Nat) (arg : Nat → LT) (q : VT → Bool) (L : List VT) (row : Option Nat) (I : List VT → World → Prop) (w : World) (e : Ending) (w' : World) : Prop :=
  (∀ j, a ≤ j → j < n → q (arg j).says = false) ∧ ∃ A c, e = .returned (.tuple #[.agg #[.slice A n c, .int .i64 (n : Int)], zeroL, .bool false, .int .i64 0]) ∧
    n ≤ c ∧ c ≤ 9223372036854775807 ∧ RdL w' (fun b => w.heap.size ≤ b) A n arg ∧ I (L ++ asks arg a n) w' ∧ w.grownBy w' row
def TakeErr (L : List VT) (row : Option Nat) (I : List VT → World → Prop) (w : World) (e : Ending) (w' : World) : Prop :=
  ∃ x : Int, x ≠ 0 ∧ e = .returned (.tuple #[.agg #[.slice none 0 0, .int .i64 0], zeroL, .bool false, .int .i64 x]) ∧ I L w' ∧ w.grownBy w' row
def TakePost (n : Nat) (at_ : Int) (arg : Nat → LT) (q : VT → Bool) (L : List VT) (row : Option Nat) (I : List VT → World → Prop) (w : World) (e : Ending) (w' : World) : Prop :=
  (¬ OkBox n at_ arg ∧ TakeErr L row I w e w') ∨ (OkBox n at_ arg ∧ (TakeYes n at_.toNat arg q L row I w e w' ∨ TakeNo n at_.toNat arg q L row I w e w'))
/-- the boxes of Take -/
structure KX (wx : World) (b : Nat) (v : Value) (at_ : Int) : Prop where
  c0 : wx.cell? ⟨b, 0, none⟩ = some v
  c1 : wx.cell? ⟨b, 1, none⟩ = some (.int .i64 at_)
  r0 : wx.cell? ⟨b + 1, 0, none⟩ = some (.slice none 0 0)
  r1 : wx.cell? ⟨b + 1, 1, none⟩ = some (.int .i64 0)
  rf : ∀ o, wx.frozen? ⟨b + 1, o, none⟩ = false
  y0 : wx.cell? ⟨b + 2, 0, none⟩ = some (.int .i64 0)
  y1 : wx.cell? ⟨b + 2, 1, none⟩ = some (.int .i64 0)
  y2 : wx.cell? ⟨b + 2, 2, none⟩ = some (.int .i64 0)
  y3 : wx.cell? ⟨b + 2, 3, none⟩ = some (.int .i64 0)
  y4 : wx.cell? ⟨b + 2, 4, none⟩ = some (.string ⟨#[]⟩)
  y5 : wx.cell? ⟨b + 2, 5, none⟩ = some (.int .i64 0)
  y6 : wx.cell? ⟨b + 2, 6, none⟩ = some (.int .i64 0)
  y7 : wx.cell? ⟨b + 2, 7, none⟩ = some (.string ⟨#[]⟩)
  y8 : wx.cell? ⟨b + 2, 8, none⟩ = some (.slice none 0 0)
  yf : ∀ o, wx.frozen? ⟨b + 2, o, none⟩ = false
  sz : b + 3 ≤ wx.heap.size
theorem KX.grown {wx wy : World} {b : Nat} {v : Value} {at_ : Int} {row : Option Nat} (h : KX wx b v at_) (hg : wx.grownBy wy row) (hr : ∀ k, row = some k → k < b ∨ b + 3 ≤ k) : KX wy b v at_ := by
  have hz := h.sz
  have k0 : ∀ j o, j < 3 → wy.cell? ⟨b + j, o, none⟩ = wx.cell? ⟨b + j, o, none⟩ := fun j o hj => grown_cell hg (by omega) (fun e => by have := hr _ e.symm; omega)
  have k1 : ∀ j o, j < 3 → wy.frozen? ⟨b + j, o, none⟩ = wx.frozen? ⟨b + j, o, none⟩ := fun j o hj => grown_frozen hg (by omega) (fun e => by have := hr _ e.symm; omega)
  exact ⟨(k0 0 0 (by omega)).trans h.c0, (k0 0 1 (by omega)).trans h.c1, (k0 1 0 (by omega)).trans h.r0, (k0 1 1 (by omega)).trans h.r1, fun o => (k1 1 o (by omega)).trans (h.rf o),
    (k0 2 0 (by omega)).trans h.y0, (k0 2 1 (by omega)).trans h.y1, (k0 2 2 (by omega)).trans h.y2, (k0 2 3 (by omega)).trans h.y3, (k0 2 4 (by omega)).trans h.y4, (k0 2 5 (by omega)).trans h.y5, (k0 2 6 (by omega)).trans h.y6, (k0 2 7 (by omega)).trans h.y7, (k0 2 8 (by omega)).trans h.y8, fun o => (k1 2 o (by omega)).trans (h.yf o), by have := hg.size; omega⟩
/-- a letter's cells in a row of the call's own -/
structure LRow (w : World) (base : Nat) (v : Value) (n : Nat) (C : Nat → List Value) (arg : Nat → LT) : Prop where
  row : w.ownsRow base 154 9 v n (flatC C n)
  len : ∀ i, (C i).length = 9
  each : ∀ i, i < n → (arg i).isL w (fun b => base ≤ b ∧ some b ≠ v.ownBlock) (C i)
theorem LRow.grown {w w' : World} {base n : Nat} {v : Value} {C : Nat → List Value} {arg : Nat → LT} {row : Option Nat} (h : LRow w base v n C arg) (hg : w.grownBy w' row) (hr : ∀ k, row = some k → k < base) : LRow w' base v n C arg :=
  ⟨own_grown h.row hg (fun k hk e => by have := hr k e; have := (h.row.lt k hk).1; omega), h.len, fun i hi => isL_grown (h.each i hi) hg (fun b hb _ => ⟨fun e => by have := hr b e.symm; omega, hb⟩)⟩
theorem LRow.rd {w : World} {base n c : Nat} {A : Option Addr} {C : Nat → List Value} {arg : Nat → LT} (h : LRow w base (.slice A n c) n C arg) : RdL w (fun b => base ≤ b) A n arg := fun h0 => by
  obtain ⟨g, cap, hv, hb, hlt, _⟩ := own_form h.row h0
  injection hv with e1 e2 e3
  subst e1 e3
  exact ⟨g, 0, rfl, hlt, hb, C, fun i hi => ⟨isL_frame (Nat.le_refl _) (fun b hs _ => ⟨hs.1, rfl⟩) (h.each i hi), fun j u hu => by
    have hj : j < 9 := by
      rcases Nat.lt_or_ge j 9 with hh | hh
      · exact hh
      · rw [List.getElem?_eq_none (by rw [h.len]; exact hh)] at hu; cases hu
    rw [Nat.zero_add, own_cellC h.row h.len hi hj]
    exact hu⟩⟩
/-- the cells from a place on -/
def restC (C : Nat → List Value) (n i : Nat) : List Value := flatC (fun k => C (i + 1 + k)) (n - (i + 1))
structure CutOk (wr : World) (g n c i : Nat) (C : Nat → List Value) (A : Addr) : Prop where
  len : (restC C n i).length = (n - (i + 1)) * 9
  one : ∀ u ∈ restC C n i, u.oneCell' = true
  src : ∀ t u, (restC C n i)[t]? = some u → wr.cell? (A.add t) = some u
  room : ∀ t, t < (restC C n i).length → (wr.cell? ⟨g, 0 + i * 9 + t, none⟩).isSome = true ∧ wr.frozen? ⟨g, 0 + i * 9 + t, none⟩ = false
theorem cut_ok {wr : World} {base g n c i : Nat} {C : Nat → List Value} {arg : Nat → LT} (h : LRow wr base (.slice (some ⟨g, 0, none⟩) n c) n C arg) (hi : i < n) :
    ∃ A : Addr, (if c = i + 1 then some (⟨g, 0, none⟩ : Addr) else some ⟨g, (i + 1) * 9, none⟩) = some A ∧ CutOk wr g n c i C A := by
  have hc := own_cap h.row
  have hl : (restC C n i).length = (n - (i + 1)) * 9 := flatC_length (fun k => h.len _) _
  have hcell : ∀ k, k < n → ∀ j, j < 9 → wr.cell? ⟨g, k * 9 + j, none⟩ = (C k)[j]? := fun k hk j hj => own_cellC h.row h.len hk hj
  have hone : ∀ u ∈ restC C n i, u.oneCell' = true := fun u hu => by
    obtain ⟨k, hk, hm⟩ := flatC_mem hu
    exact isL_one (h.each (i + 1 + k) (by omega)) u hm
  have hroom : ∀ t, t < (restC C n i).length → (wr.cell? ⟨g, 0 + i * 9 + t, none⟩).isSome = true ∧ wr.frozen? ⟨g, 0 + i * 9 + t, none⟩ = false := fun t ht => by
    rw [hl] at ht
    refine ⟨?_, h.row.frozenAt _⟩
    have e : 0 + i * 9 + t = (i + t / 9) * 9 + t % 9 := by omega
    rw [e, hcell _ (by omega) _ (by omega), List.getElem?_eq_getElem (by rw [h.len]; omega)]
    rfl
  by_cases e : c = i + 1
  · refine ⟨⟨g, 0, none⟩, by simp [e], hl, hone, fun t u hu => ?_, hroom⟩
    have h0 : (restC C n i).length = 0 := by rw [hl]; omega
    rw [List.length_eq_zero_iff.1 h0] at hu
    simp at hu
  · refine ⟨⟨g, (i + 1) * 9, none⟩, by simp [e], hl, hone, fun t u hu => ?_, hroom⟩
    have ht : t < (n - (i + 1)) * 9 := by
      rw [← hl]
      exact (List.getElem?_eq_some_iff.1 hu).1
    rw [Addr.add_lit]
    have e2 : (i + 1) * 9 + t = (i + 1 + t / 9) * 9 + t % 9 := by omega
    have e3 : t = (t / 9) * 9 + t % 9 := by omega
    rw [e2, hcell _ (by omega) _ (by omega)]
    rw [e3] at hu
    unfold restC at hu
    rw [flatC_get (fun k => h.len _) (by omega) (by omega)] at hu
    exact hu
end Go.Proofs.YthgbcgphkddmgaaGreat
