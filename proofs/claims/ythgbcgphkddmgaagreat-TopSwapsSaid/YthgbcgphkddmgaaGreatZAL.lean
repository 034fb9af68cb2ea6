/- link.Gone. link.Add, and the closed fact of the laws on links. A node as data, and what its methods make of it. How a node lies in memory. -/
import Derived.Test.YthgbcgphkddmgaaGreatZAK
import Derived.Test.YthgbcgphkddmgaaGreatZAG
import Derived.Test.YthgbcgphkddmgaaGreatZAF
import Derived.Test.YthgbcgphkddmgaaGreatZAJ
import Derived.Test.YthgbcgphkddmgaaGreatZAC
namespace Go.Proofs.YthgbcgphkddmgaaGreat.Li
open Go.RowKit
set_option linter.unusedVariables false
theorem iv_del (vw vl : Nat → Value) (i j : Nat) (s : Bool) : iv (delF vw i) (delF vl i) j s = iv vw vl (if j < i then j else j + 1) s := by
  unfold iv delF
  cases s <;> simp only [Bool.false_eq_true, if_false, if_true] <;> split <;> rfl
theorem il_del (R : Nat → LR) (i j : Nat) (s : Bool) : il (delF R i) j s = il R (if j < i then j else j + 1) s := by
  unfold il delF
  cases s <;> simp only [Bool.false_eq_true, if_false, if_true] <;> split <;> rfl
theorem rwC_del (R : Nat → LR) (vw vl : Nat → Value) (i : Nat) : rwC (delF R i) (delF vw i) (delF vl i) = delF (rwC R vw vl) i := by
  funext k
  unfold rwC delF
  split <;> rfl
/-- a row less -/
theorem OwnL.del {w w2 : World} {base g cap n i : Nat} {R : Nat → LR} {vw vl : Nat → Value} (h : OwnL w base (.slice (some ⟨g, 0, none⟩) n cap) n R vw vl) (hi : i < n) (hg : w.grownBy w2 (some g))
    (hown : w2.ownsRow base 242 3 (.slice (some ⟨g, 0, none⟩) (n - 1) cap) (n - 1) ((flatC (rwC R vw vl) n).take (i * 3) ++ (flatC (rwC R vw vl) n).drop ((i + 1) * 3))) :
    OwnL w2 base (.slice (some ⟨g, 0, none⟩) (n - 1) cap) (n - 1) (delF R i) (delF vw i) (delF vl i) := by
  have hx : ∀ j, j < n - 1 → (if j < i then j else j + 1) < n := fun j hj => by split <;> omega
  refine ⟨?_, fun j hj s => ?_, fun a b ha hb s t hst k hk => ?_, fun j hj s k hk => ?_⟩
  · rw [del_flatG (rwC_len _ _ _) hi] at hown
    rw [rwC_del]
    exact hown
  · rw [iv_del, il_del]
    exact (h.each _ (hx j hj) s).grown hg (fun k hk e => h.outer _ (hx j hj) s k hk (by rw [← e]; rfl))
  · rw [iv_del] at hk ⊢
    refine h.apart _ _ (hx a ha) (hx b hb) s t (fun h2 => hst ⟨?_, h2.2⟩) k hk
    have := h2.1
    split at this <;> split at this <;> omega
  · rw [iv_del] at hk
    intro e
    exact h.outer _ (hx j hj) s k hk (by rw [← e]; rfl)
/-- the cells of a letter without a value -/
def ltC (k a b n : Int) (s : ByteArray) : List Value := [.int .i64 k, .int .i64 a, .int .i64 b, .int .i64 n, .string s, .int .i64 0, .int .i64 0, .string ⟨#[]⟩, .slice none 0 0]
theorem ltC_one (k a b n : Int) (s : ByteArray) : ∀ u ∈ ltC k a b n s, u.oneCell' = true := by
  intro u hu
  simp [ltC] at hu
  rcases hu with rfl | rfl | rfl | rfl | rfl | rfl | rfl | rfl <;> rfl
/-- what is told when one is gone -/
def told (ref : Int) (failed : Bool) (text : ByteArray) (r : LR) : Nat → List Value := fun k =>
  if k < r.ws.length then ltC 2 ref (lst r.ws k) (if failed then 1 else 0) (if failed then text else ⟨#[]⟩) else ltC 5 ref (lst r.ls (k - r.ws.length)) 0 text
theorem told_len (ref : Int) (failed : Bool) (text : ByteArray) (r : LR) : ∀ k, (told ref failed text r k).length = 9 := fun k => by unfold told; split <;> rfl
def manyTold (failed : Bool) (r : LR) : Nat := r.ws.length + if failed then r.ls.length else 0
def GoneBad (P : Prop) (w : World) (e : Ending) (w' : World) : Prop := ∃ x : Int, x ≠ 0 ∧ (P → x = 4) ∧ e = .returned (.tuple #[.slice none 0 0, .slice none 0 0, .int .i64 x]) ∧ Below w.heap.size w w'
def GoneOk (R : Nat → LR) (n i : Nat) (ref : Int) (failed : Bool) (text : ByteArray) (w : World) (e : Ending) (w' : World) : Prop := ∃ A c vw vl L d, e = .returned (.tuple #[.slice A (n - 1) c, .slice L (manyTold failed (R i)) d, .int .i64 0]) ∧
  OwnL w' w.heap.size (.slice A (n - 1) c) (n - 1) (delF R i) vw vl ∧ w'.ownsRow w.heap.size 154 9 (.slice L (manyTold failed (R i)) d) (manyTold failed (R i)) (flatC (told ref failed text (R i)) (manyTold failed (R i))) ∧ Below w.heap.size w w'
theorem infoLt : (Tryz.prog.info? 154).map (fun i => (i.zero, i.size, i.bytes)) = some (some (.agg #[.int .i64 0, .int .i64 0, .int .i64 0, .int .i64 0, .string ⟨#[]⟩, .int .i64 0, .int .i64 0, .string ⟨#[]⟩, .slice none 0 0]), 9, 104) := by kernel_rfl
/-- the two boxes of a call of Gone -/
structure GB (wx : World) (b : Nat) (lA : Option Addr) (ln lc : Nat) (y ref num : Int) (tx : ByteArray) : Prop where
  k2 : wx.cell? ⟨b, 2, none⟩ = some (.slice lA ln lc)
  c0 : wx.cell? ⟨b + 1, 0, none⟩ = some (.int .i64 2)
  c1 : wx.cell? ⟨b + 1, 1, none⟩ = some (.int .i64 ref)
  c2 : wx.cell? ⟨b + 1, 2, none⟩ = some (.int .i64 y)
  c3 : wx.cell? ⟨b + 1, 3, none⟩ = some (.int .i64 num)
  c4 : wx.cell? ⟨b + 1, 4, none⟩ = some (.string tx)
  c5 : wx.cell? ⟨b + 1, 5, none⟩ = some (.int .i64 0)
  c6 : wx.cell? ⟨b + 1, 6, none⟩ = some (.int .i64 0)
  c7 : wx.cell? ⟨b + 1, 7, none⟩ = some (.string ⟨#[]⟩)
  c8 : wx.cell? ⟨b + 1, 8, none⟩ = some (.slice none 0 0)
  fz : ∀ o, wx.frozen? ⟨b + 1, o, none⟩ = false
  sz : b + 1 < wx.heap.size
theorem GB.grown {wx wy : World} {b : Nat} {lA : Option Addr} {ln lc : Nat} {y ref num : Int} {tx : ByteArray} {row : Option Nat} (h : GB wx b lA ln lc y ref num tx) (hg : wx.grownBy wy row) (hr : ∀ g, row = some g → b + 2 ≤ g) : GB wy b lA ln lc y ref num tx := by
  have hs := h.sz
  have k0 : ∀ o, wy.cell? ⟨b, o, none⟩ = wx.cell? ⟨b, o, none⟩ := fun o => grown_cell hg (by omega) (fun e => by have := hr b e.symm; omega)
  have k1 : ∀ o, wy.cell? ⟨b + 1, o, none⟩ = wx.cell? ⟨b + 1, o, none⟩ := fun o => grown_cell hg (by omega) (fun e => by have := hr (b + 1) e.symm; omega)
  have k3 : ∀ o, wy.frozen? ⟨b + 1, o, none⟩ = wx.frozen? ⟨b + 1, o, none⟩ := fun o => grown_frozen hg (by omega) (fun e => by have := hr (b + 1) e.symm; omega)
  exact ⟨(k0 _).trans h.k2, (k1 _).trans h.c0, (k1 _).trans h.c1, (k1 _).trans h.c2, (k1 _).trans h.c3, (k1 _).trans h.c4, (k1 _).trans h.c5, (k1 _).trans h.c6, (k1 _).trans h.c7, (k1 _).trans h.c8, fun o => (k3 o).trans (h.fz o), by have := hg.size; omega⟩
theorem GB.set {wx : World} {b : Nat} {lA : Option Addr} {ln lc : Nat} {y ref num : Int} {tx : ByteArray} (h : GB wx b lA ln lc y ref num tx) (z : Int) : GB (wx.setCell ⟨b + 1, 2, none⟩ (.int .i64 z)) b lA ln lc z ref num tx := by
  have x2 : (wx.cell? ⟨b + 1, 2, none⟩).isSome = true := by rw [h.c2]; rfl
  constructor
  · simp [go_sem, h.k2]
  · simp [go_sem, h.c0]
  · simp [go_sem, h.c1]
  · simp [go_sem, x2]
  · simp [go_sem, h.c3]
  · simp [go_sem, h.c4]
  · simp [go_sem, h.c5]
  · simp [go_sem, h.c6]
  · simp [go_sem, h.c7]
  · simp [go_sem, h.c8]
  · intro o; simp [go_sem, h.fz]
  · simpa using h.sz
theorem OwnL.one {w : World} {base : Nat} {v : Value} {n : Nat} {R : Nat → LR} {vw vl : Nat → Value} (h : OwnL w base v n R vw vl) : ∀ u ∈ flatC (rwC R vw vl) n, u.oneCell' = true := by
  intro u hu
  obtain ⟨k, hk, hu⟩ := flatC_mem hu
  obtain ⟨wA, wc, hvw, _⟩ := own_any (h.each k hk true)
  obtain ⟨lA, lc, hvl, _⟩ := own_any (h.each k hk false)
  have hvw' : vw k = _ := hvw
  have hvl' : vl k = _ := hvl
  simp only [rwC, List.mem_cons, List.not_mem_nil, or_false] at hu
  rcases hu with rfl | rfl | rfl
  · rfl
  · rw [hvw']; rfl
  · rw [hvl']; rfl
set_option maxHeartbeats 2000000 in
theorem gone_bad (A : Option Addr) (n c : Nat) (R : Nat → LR) (vw vl : Nat → Value) (ref : Int) (failed : Bool) (text : ByteArray) (w : World) (hn : n ≤ c) (hc : c ≤ 9223372036854775807) (hR : RdL w A n R vw vl) (hno : ¬ ∃ i, OkIx R n ref i) :
    Calls Tryz.prog 93 #[.slice A n c, .int .i64 ref, .bool failed, .string text] w (GoneBad (OkL R n) w) := by
  have H := Lib.hid (begin_bad A n c R vw vl ref w hn hc hR hno)
  clear hR hno
  go_enter Tryz.func93, Tryz.ntmps93
  go_wp2_with fail
  refine H.out.mono ?_
  rintro e w1 ⟨y, hy, h4, rfl, hb⟩
  have HY := Lib.hid hy
  have H4 := Lib.hid h4
  have HB := Lib.hid hb
  have e0 : (y != 0) = true := by simpa using hy
  clear hy hb h4
  go_wp2_with fail
  go_ret3
  exact ⟨y, HY.out, H4.out, rfl, HB.out⟩
set_option maxRecDepth 100000 in
set_option maxHeartbeats 4000000 in
theorem gone_ok (A : Option Addr) (n c : Nat) (R : Nat → LR) (vw vl : Nat → Value) (ref : Int) (failed : Bool) (text : ByteArray) (i : Nat) (w : World) (hn : n ≤ c) (hc : c ≤ 9223372036854775807) (hR : RdL w A n R vw vl) (hi : OkIx R n ref i) :
    Calls Tryz.prog 93 #[.slice A n c, .int .i64 ref, .bool failed, .string text] w (GoneOk R n i ref failed text w) := by
  have hin := hi.2.1
  have hw100 := (hi.1.2 i hi.2.1).2.1
  have hl100 := (hi.1.2 i hi.2.1).2.2.1
  have hn100 := hi.1.1
  have H := Lib.hid (begin_ok A n c R vw vl ref i w hn hc hR hi)
  clear hR hi
  go_enter Tryz.func93, Tryz.ntmps93
  go_wp2_with fail
  refine H.out.mono ?_
  rintro e w1 ⟨A1, c1, vw1, vl1, rfl, hO, hb⟩
  obtain ⟨g, cap, hv, hbase, hglt, hnc, hcm⟩ := own_form hO.row (by omega)
  injection hv with e1 _ e3
  subst e1 e3
  obtain ⟨wA, wc, hvw, q1, q2, _⟩ := own_any (hO.each i hin true)
  have hvw' : vw1 i = .slice wA (R i).ws.length wc := hvw
  obtain ⟨lA, lc, hvl, q3, q4, _⟩ := own_any (hO.each i hin false)
  have hvl' : vl1 i = .slice lA (R i).ls.length lc := hvl
  have c0 : w1.cell? ⟨g, i * 3, none⟩ = some (.int .i64 (R i).ref) := by
    have := own_cellC hO.row (rwC_len _ _ _) hin (j := 0) (by omega)
    simpa [rwC] using this
  have c1' : w1.cell? ⟨g, i * 3 + 1, none⟩ = some (.slice wA (R i).ws.length wc) := by
    rw [own_cellC hO.row (rwC_len _ _ _) hin (j := 1) (by omega)]
    simp [rwC, hvw']
  have c2' : w1.cell? ⟨g, i * 3 + 2, none⟩ = some (.slice lA (R i).ls.length lc) := by
    rw [own_cellC hO.row (rwC_len _ _ _) hin (j := 2) (by omega)]
    simp [rwC, hvl']
  have HRW := Lib.hid (show Rd w1 1 (tmC (lst (R i).ws)) wA (R i).ws.length from OwnI.rd (by have := hO.each i hin true; rw [hvw] at this; exact this))
  have HRL := Lib.hid (show Rd w1 1 (tmC (lst (R i).ls)) lA (R i).ls.length from OwnI.rd (by have := hO.each i hin false; rw [hvl] at this; exact this))
  have HO := Lib.hid hO
  have HB := Lib.hid hb
  have hz := hb.size
  have j0 : (0 : Int) ≤ (i : Int) := by omega
  have j1 : (i : Int) < (n : Int) := by omega
  clear hO hb hvw hvw' hvl hvl'
  cases failed with
  | false =>
    go_wp2_with fail
    obtain ⟨i0, hi0, hz0, hz1, hz2⟩ := info_parts infoLt
    have hb14 : w1.heap.size ≤ w1.heap.size := Nat.le_refl _
    clear c0 c1' c2'
    go_loopw [16, 18, 44] (fun o _ x wx => ∃ (k : Nat) (v : Value) (y : Int), k ≤ (R i).ws.length ∧ x = .int .i64 k ∧ v = o ∧ GB wx w1.heap.size lA (R i).ls.length lc y ref 0 ⟨#[]⟩ ∧ Below w1.heap.size w1 wx ∧ wx.ownsRow (w1.heap.size + 2) 154 9 v k (flatC (told ref false text (R i)) k)) (fun _ _ x _ => (R i).ws.length - (intOf x).toNat)
    case atStart =>
      refine ⟨0, _, 0, Nat.zero_le _, rfl, rfl, ?_, ?_, World.ownsRow_nil _ _ _ _⟩
      · constructor
        any_goals (first | simp [go_sem] | (intro o; simp [go_sem]))
      · first
          | exact ((Below.refl _ _).alloc (Nat.le_refl _) _).alloc (by simp) _
          | exact below_set (below_set (((Below.refl _ _).alloc (Nat.le_refl _) _).alloc (by simp) _) (by omega)) (by omega)
    case round =>
      obtain ⟨k, v, y, hk, rfl, rfl, hG, hB, hV⟩ := hrel
      obtain ⟨Av, cv, rfl, v1, v2, _⟩ := own_any hV
      have HG := Lib.hid hG
      have HBx := Lib.hid hB
      have HV := Lib.hid hV
      have hBs := hB.size
      by_cases hlt : k < (R i).ws.length
      · obtain ⟨bl, ol, rfl, hbl, hcl⟩ := HRW.out (by omega)
        have f0 : wr.cell? ⟨bl, ol + k, none⟩ = some (.int .i64 (lst (R i).ws k)) := (hB.cell (p := ⟨bl, _, none⟩) hbl).trans (by simpa using hcl k hlt 0 _ rfl)
        have HT := Lib.hid (show told ref false text (R i) k = ltC 2 ref (lst (R i).ws k) 0 ⟨#[]⟩ by unfold told; rw [if_pos hlt]; rfl)
        generalize lst (R i).ws k = z at *
        obtain ⟨k2, c0, c1, c2, c3, c4, c5, c6, c7, c8, fz, hsz⟩ := hG
        have m0 : (0 : Int) ≤ (k : Int) := by omega
        have m1 : (k : Int) < ((R i).ws.length : Int) := by omega
        have HG2 := Lib.hid (HG.out.set z)
        have HV2 := Lib.hid (own_set (b := w1.heap.size + 1) (o := 2) (u := .int .i64 z) HV.out (by omega))
        have HB2 := Lib.hid (below_set (b := w1.heap.size + 1) (o := 2) (u := .int .i64 z) HBx.out (by omega))
        have HKL := Lib.hid (show k ≤ 1000 by omega)
        clear hcl hB hV hBs
        go_wp2_with (at_builtin; go_loud (refine wpList_append_own_at _ rfl _ _ 115 rfl (w1.heap.size + 2) 154 i0 _ 9 104 Tryz.underlying115 hi0 hz0 hz1 hz2 rfl (by omega) (.slice Av k cv) k (flatC (told ref false text (R i)) k) rfl (HV2.out.alloc _) ⟨wr.heap.size, 0, none⟩ 1 1 (ltC 2 ref z 0 ⟨#[]⟩) rfl rfl (cell_newL _ _ _ _ (by simp)) (ltC_one _ _ _ _ _) (by have := HKL.out; unfold maxLen; omega) (by have := HKL.out; omega) (by simp; have := HG.out.sz; omega) ?_; intro v8 w8 hown8 hgrow8 _ _; have HO8 := Lib.hid hown8; have HG8 := Lib.hid hgrow8; clear hown8 hgrow8))
        have HBK := Lib.hid (fun g (hg : (Value.slice Av k cv).ownBlock = some g) => (HV.out.lt g hg).1)
        refine ⟨⟨k + 1, v8, z, by omega, by go_num, rfl, ?_, ?_, ?_⟩, by simp [intOf]; omega⟩
        · exact (HG2.out.grown (World.grownBy_alloc _ _ none) (fun g hg => by cases hg)).grown HG8.out (fun g hg => HBK.out g hg)
        · exact below_grown (HB2.out.alloc (by simp; have := HBx.out.size; omega) _) (by simp; have := HBx.out.size; omega) HG8.out (fun g hg => by have := HBK.out g hg; omega)
        · rw [flatC, HT.out]
          exact HO8.out
      · obtain rfl : k = (R i).ws.length := by omega
        have HOX := Lib.hid (HO.out.below HBx.out)
        have w1i : IntKind.i64.wrap ((i : Int) + 1) = (i : Int) + 1 := by rw [IntKind.wrap_i64]; omega
        have j2 : (i : Int) + 1 ≤ (n : Int) := by omega
        clear hG hB hV
        go_wp2_with fail
        refine (del_one w.heap.size g c1 n i (flatC (rwC R vw1 vl1) n) _ hin HOX.out.row HOX.out.one).mono ?_
        rintro e w9 ⟨rfl, hown9, hg9⟩
        have HO9 := Lib.hid hown9
        have HG9 := Lib.hid hg9
        clear hown9 hg9
        go_wp2_with fail
        go_ret3
        refine ⟨some ⟨g, 0, none⟩, c1, delF vw1 i, delF vl1 i, Av, cv, rfl, HOX.out.del hin HG9.out HO9.out, ?_, ?_⟩
        · exact own_mono (own_grown HV.out HG9.out (fun k hk e => by have := (HV.out.lt k hk).1; injection e with e; omega)) (by omega)
        · exact below_grown (HB.out.trans (HBx.out.mono hz)) (by omega) HG9.out (fun k hk => by injection hk with hk; omega)
  | true =>
    go_wp2_with fail
    obtain ⟨i0, hi0, hz0, hz1, hz2⟩ := info_parts infoLt
    have hb14 : w1.heap.size ≤ w1.heap.size := Nat.le_refl _
    clear c0 c1' c2'
    go_loopw [16, 18, 44] (fun o _ x wx => ∃ (k : Nat) (v : Value) (y : Int), k ≤ (R i).ws.length ∧ x = .int .i64 k ∧ v = o ∧ GB wx w1.heap.size lA (R i).ls.length lc y ref 1 text ∧ Below w1.heap.size w1 wx ∧ wx.ownsRow (w1.heap.size + 2) 154 9 v k (flatC (told ref true text (R i)) k)) (fun _ _ x _ => (R i).ws.length - (intOf x).toNat)
    case atStart =>
      refine ⟨0, _, 0, Nat.zero_le _, rfl, rfl, ?_, ?_, World.ownsRow_nil _ _ _ _⟩
      · constructor
        any_goals (first | simp [go_sem] | (intro o; simp [go_sem]))
      · first
          | exact ((Below.refl _ _).alloc (Nat.le_refl _) _).alloc (by simp) _
          | exact below_set (below_set (((Below.refl _ _).alloc (Nat.le_refl _) _).alloc (by simp) _) (by omega)) (by omega)
    case round =>
      obtain ⟨k, v, y, hk, rfl, rfl, hG, hB, hV⟩ := hrel
      obtain ⟨Av, cv, rfl, v1, v2, _⟩ := own_any hV
      have HG := Lib.hid hG
      have HBx := Lib.hid hB
      have HV := Lib.hid hV
      have hBs := hB.size
      by_cases hlt : k < (R i).ws.length
      · obtain ⟨bl, ol, rfl, hbl, hcl⟩ := HRW.out (by omega)
        have f0 : wr.cell? ⟨bl, ol + k, none⟩ = some (.int .i64 (lst (R i).ws k)) := (hB.cell (p := ⟨bl, _, none⟩) hbl).trans (by simpa using hcl k hlt 0 _ rfl)
        have HT := Lib.hid (show told ref true text (R i) k = ltC 2 ref (lst (R i).ws k) 1 text by unfold told; rw [if_pos hlt]; rfl)
        generalize lst (R i).ws k = z at *
        obtain ⟨k2, c0, c1, c2, c3, c4, c5, c6, c7, c8, fz, hsz⟩ := hG
        have m0 : (0 : Int) ≤ (k : Int) := by omega
        have m1 : (k : Int) < ((R i).ws.length : Int) := by omega
        have HG2 := Lib.hid (HG.out.set z)
        have HV2 := Lib.hid (own_set (b := w1.heap.size + 1) (o := 2) (u := .int .i64 z) HV.out (by omega))
        have HB2 := Lib.hid (below_set (b := w1.heap.size + 1) (o := 2) (u := .int .i64 z) HBx.out (by omega))
        have HKL := Lib.hid (show k ≤ 1000 by omega)
        clear hcl hB hV hBs
        go_wp2_with (at_builtin; go_loud (refine wpList_append_own_at _ rfl _ _ 115 rfl (w1.heap.size + 2) 154 i0 _ 9 104 Tryz.underlying115 hi0 hz0 hz1 hz2 rfl (by omega) (.slice Av k cv) k (flatC (told ref true text (R i)) k) rfl (HV2.out.alloc _) ⟨wr.heap.size, 0, none⟩ 1 1 (ltC 2 ref z 1 text) rfl rfl (cell_newL _ _ _ _ (by simp)) (ltC_one _ _ _ _ _) (by have := HKL.out; unfold maxLen; omega) (by have := HKL.out; omega) (by simp; have := HG.out.sz; omega) ?_; intro v8 w8 hown8 hgrow8 _ _; have HO8 := Lib.hid hown8; have HG8 := Lib.hid hgrow8; clear hown8 hgrow8))
        have HBK := Lib.hid (fun g (hg : (Value.slice Av k cv).ownBlock = some g) => (HV.out.lt g hg).1)
        refine ⟨⟨k + 1, v8, z, by omega, by go_num, rfl, ?_, ?_, ?_⟩, by simp [intOf]; omega⟩
        · exact (HG2.out.grown (World.grownBy_alloc _ _ none) (fun g hg => by cases hg)).grown HG8.out (fun g hg => HBK.out g hg)
        · exact below_grown (HB2.out.alloc (by simp; have := HBx.out.size; omega) _) (by simp; have := HBx.out.size; omega) HG8.out (fun g hg => by have := HBK.out g hg; omega)
        · rw [flatC, HT.out]
          exact HO8.out
      · obtain rfl : k = (R i).ws.length := by omega
        obtain ⟨k2, c0, c1_, c2, c3, c4, c5, c6, c7, c8, fz, hsz⟩ := hG
        have hk2 : w1.heap.size < wr.heap.size := by omega
        clear hB hV c0 c1_ c2 c3 c4 c5 c6 c7 c8 fz
        go_wp2_with fail
        clear k2
        go_loopw [16, 20, 59] (fun o _ x wx => ∃ (q : Nat) (v : Value), q ≤ (R i).ls.length ∧ x = .int .i64 q ∧ v = o ∧ Below w1.heap.size w1 wx ∧ w1.heap.size + 2 ≤ wx.heap.size ∧ wx.ownsRow (w1.heap.size + 2) 154 9 v ((R i).ws.length + q) (flatC (told ref true text (R i)) ((R i).ws.length + q))) (fun _ _ x _ => (R i).ls.length - (intOf x).toNat)
        case atStart => exact ⟨0, _, Nat.zero_le _, rfl, rfl, HBx.out, by have := HG.out.sz; omega, HV.out⟩
        case round =>
          clear HBx HV HG
          obtain ⟨q, v, hq, rfl, rfl, hB, hsz2, hV⟩ := hrel
          obtain ⟨Av, cv, rfl, v1, v2, _⟩ := own_any hV
          have HBx := Lib.hid hB
          have HV := Lib.hid hV
          have hBs := hB.size
          by_cases hlt : q < (R i).ls.length
          · obtain ⟨bl, ol, rfl, hbl, hcl⟩ := HRL.out (by omega)
            have f0 : wr.cell? ⟨bl, ol + q, none⟩ = some (.int .i64 (lst (R i).ls q)) := (hB.cell (p := ⟨bl, _, none⟩) hbl).trans (by simpa using hcl q hlt 0 _ rfl)
            have HT := Lib.hid (show told ref true text (R i) ((R i).ws.length + q) = ltC 5 ref (lst (R i).ls q) 0 text by unfold told; rw [if_neg (by omega), Nat.add_sub_cancel_left])
            generalize lst (R i).ls q = z at *
            have m0 : (0 : Int) ≤ (q : Int) := by omega
            have m1 : (q : Int) < ((R i).ls.length : Int) := by omega
            have HKL := Lib.hid (show (R i).ws.length + q ≤ 1000 by omega)
            clear hcl hB hV hBs
            go_wp2_with (at_builtin; go_loud (refine wpList_append_own_at _ rfl _ _ 115 rfl (w1.heap.size + 2) 154 i0 _ 9 104 Tryz.underlying115 hi0 hz0 hz1 hz2 rfl (by omega) (.slice Av ((R i).ws.length + q) cv) ((R i).ws.length + q) (flatC (told ref true text (R i)) ((R i).ws.length + q)) rfl (HV.out.alloc _) ⟨wr.heap.size, 0, none⟩ 1 1 (ltC 5 ref z 0 text) rfl rfl (cell_newL _ _ _ _ (by simp)) (ltC_one _ _ _ _ _) (by have := HKL.out; unfold maxLen; omega) (by have := HKL.out; omega) (by simp; omega) ?_; intro v8 w8 hown8 hgrow8 _ _; have HO8 := Lib.hid hown8; have HG8 := Lib.hid hgrow8; clear hown8 hgrow8))
            have HBK := Lib.hid (fun g (hg : (Value.slice Av ((R i).ws.length + q) cv).ownBlock = some g) => (HV.out.lt g hg).1)
            refine ⟨⟨q + 1, v8, by omega, by go_num, rfl, ?_, by have := HG8.out.size; simp at this; omega, ?_⟩, by simp [intOf]; omega⟩
            · exact below_grown (HBx.out.alloc (by omega) _) (by simp; omega) HG8.out (fun g hg => by have := HBK.out g hg; omega)
            · rw [show (R i).ws.length + (q + 1) = ((R i).ws.length + q) + 1 by omega, flatC, HT.out]
              exact HO8.out
          · obtain rfl : q = (R i).ls.length := by omega
            have HOX := Lib.hid (HO.out.below HBx.out)
            have w1i : IntKind.i64.wrap ((i : Int) + 1) = (i : Int) + 1 := by rw [IntKind.wrap_i64]; omega
            have j2 : (i : Int) + 1 ≤ (n : Int) := by omega
            clear hB hV
            go_wp2_with fail
            refine (del_one w.heap.size g c1 n i (flatC (rwC R vw1 vl1) n) _ hin HOX.out.row HOX.out.one).mono ?_
            rintro e w9 ⟨rfl, hown9, hg9⟩
            have HO9 := Lib.hid hown9
            have HG9 := Lib.hid hg9
            clear hown9 hg9
            go_wp2_with fail
            go_ret3
            refine ⟨some ⟨g, 0, none⟩, c1, delF vw1 i, delF vl1 i, Av, cv, rfl, HOX.out.del hin HG9.out HO9.out, ?_, ?_⟩
            · exact own_mono (own_grown HV.out HG9.out (fun k hk e => by have := (HV.out.lt k hk).1; injection e with e; omega)) (by omega)
            · exact below_grown (HB.out.trans (HBx.out.mono hz)) (by omega) HG9.out (fun k hk => by injection hk with hk; omega)
end Go.Proofs.YthgbcgphkddmgaaGreat.Li
namespace Go.Proofs.YthgbcgphkddmgaaGreat.Li
open Go.RowKit
set_option linter.unusedVariables false
theorem own_at {w : World} {base : Nat} {e : TypeId} {sz n : Nat} {v : Value} {xs : List Value} (h : w.ownsRow base e sz v n xs) {k : Nat} (hk : v.ownBlock = some k) : ∃ cur, w.heap[k]? = some (.cells cur e (0, 0)) := by
  rcases h.2 with ⟨hv, _⟩ | ⟨g, cap, cur, hv, hb, hg, _⟩
  · rw [hv] at hk; cases hk
  · have : g = k := by rw [hv] at hk; simpa [Value.ownBlock] using hk
    subst this
    exact ⟨cur, hg⟩
/-- rows of different types lie apart -/
theorem own_apart {w : World} {b b' : Nat} {e e' : TypeId} {sz sz' n n' : Nat} {v v' : Value} {xs xs' : List Value} (h : w.ownsRow b e sz v n xs) (h' : w.ownsRow b' e' sz' v' n' xs') (hne : e ≠ e') : ∀ k, v.ownBlock = some k → v'.ownBlock ≠ some k := by
  intro k hk hk'
  obtain ⟨c, hc⟩ := own_at h hk
  obtain ⟨c', hc'⟩ := own_at h' hk'
  rw [hc] at hc'
  injection hc' with hc'
  injection hc' with _ h2 _
  exact hne h2
theorem iv_ins (vw vl : Nat → Value) (p j : Nat) (x y : Value) (s : Bool) : iv (insF vw p x) (insF vl p y) j s = if j = p then (if s then x else y) else iv vw vl (if j < p then j else j - 1) s := by
  unfold iv insF
  by_cases e : j = p
  · subst e
    cases s <;> simp
  · rw [if_neg e]
    cases s <;> simp only [Bool.false_eq_true, if_false, if_true, e] <;> split <;> rfl
theorem il_ins (R : Nat → LR) (p j : Nat) (r : LR) (s : Bool) : il (insF R p r) j s = if j = p then (if s then r.ws else r.ls) else il R (if j < p then j else j - 1) s := by
  unfold il insF
  by_cases e : j = p
  · subst e
    cases s <;> simp
  · rw [if_neg e]
    cases s <;> simp only [Bool.false_eq_true, if_false, if_true, e] <;> split <;> rfl
theorem rwC_ins (R : Nat → LR) (vw vl : Nat → Value) (p : Nat) (r : LR) (x y : Value) : rwC (insF R p r) (insF vw p x) (insF vl p y) = insF (rwC R vw vl) p [.int .i64 r.ref, x, y] := by
  funext k
  unfold rwC insF
  split
  · rfl
  · split <;> rfl
/-- a row more, without watches and links -/
theorem OwnL.ins {w w2 : World} {base n p : Nat} {v v' : Value} {R : Nat → LR} {vw vl : Nat → Value} {ref : Int} {row : Option Nat} (h : OwnL w base v n R vw vl) (hp : p ≤ n) (hg : w.grownBy w2 row) (hrow : ∀ k, row = some k → v.ownBlock = some k)
    (hown : w2.ownsRow base 242 3 v' (n + 1) ((flatC (rwC R vw vl) n).take (p * 3) ++ [.int .i64 ref, .slice none 0 0, .slice none 0 0] ++ (flatC (rwC R vw vl) n).drop (p * 3))) :
    OwnL w2 base v' (n + 1) (insF R p ⟨ref, [], []⟩) (insF vw p (.slice none 0 0)) (insF vl p (.slice none 0 0)) := by
  have hx : ∀ j, j < n + 1 → j ≠ p → (if j < p then j else j - 1) < n := fun j hj hne => by split <;> omega
  have hnil : ∀ s : Bool, (if s then (Value.slice none 0 0) else (Value.slice none 0 0)) = .slice none 0 0 := fun s => by cases s <;> rfl
  have heach : ∀ j, j < n + 1 → ∀ s, OwnI w2 base (iv (insF vw p (.slice none 0 0)) (insF vl p (.slice none 0 0)) j s) (il (insF R p ⟨ref, [], []⟩) j s) := fun j hj s => by
    rw [iv_ins, il_ins]
    by_cases e : j = p
    · rw [if_pos e, if_pos e, hnil]
      cases s <;> exact OwnI.nil _ _
    · rw [if_neg e, if_neg e]
      exact (h.each _ (hx j hj e) s).grown hg (fun k hk e2 => h.outer _ (hx j hj e) s k hk (hrow k e2))
  refine ⟨?_, heach, fun a b ha hb s t hst k hk => ?_, fun j hj s k hk => ?_⟩
  · rw [ins_flatG (rwC_len _ _ _) hp (rwC_ins R vw vl p ⟨ref, [], []⟩ _ _)] at hown
    exact hown
  · rw [iv_ins] at hk ⊢
    by_cases e : a = p
    · rw [if_pos e, hnil] at hk; cases hk
    · rw [if_neg e] at hk
      by_cases e2 : b = p
      · rw [if_pos e2, hnil]; exact fun h => by cases h
      · rw [if_neg e2]
        refine h.apart _ _ (hx a ha e) (hx b hb e2) s t (fun h2 => hst ⟨?_, h2.2⟩) k hk
        have := h2.1
        split at this <;> split at this <;> omega
  · exact own_apart (heach j hj s) hown (by decide) k hk
set_option maxHeartbeats 4000000 in
set_option maxRecDepth 100000 in
/-- Insert of one element into nothing -/
theorem ins_nil (base vb : Nat) (r : List Value) (w : World) (hb : base ≤ w.heap.size) (hvb : w.heap[vb]? = some (.cells r.toArray 242 (0, 0))) (hr : r.length = 3) (h1r : ∀ v ∈ r, v.oneCell' = true) :
    Calls Tryz.prog 156 #[.slice none 0 0, .int .i64 0, .slice (some ⟨vb, 0, none⟩) 1 1] w fun e w' => ∃ v, e = .returned v ∧ w'.ownsRow base 242 3 v 1 r ∧ w.grownBy w' none := by
  obtain ⟨i0, hi0, hz0, hzs, hzb⟩ := info_parts infoR
  have HV := Lib.hid (show ∀ j u, r[j]? = some u → w.cell? ((⟨vb, 0, none⟩ : Addr).add j) = some u from fun j u hj => by rw [Addr.add_lit, cell_of_row hvb]; simpa using hj)
  have H1 := Lib.hid h1r
  have HR := Lib.hid hr
  clear hvb hr h1r
  go_enter Tryz.func156, Tryz.ntmps156
  go_wp2_with (at_builtin; go_loud (refine wpList_append_own_at _ rfl _ _ 130 rfl base 242 i0 _ 3 56 Tryz.underlying130 hi0 hz0 hzs hzb rfl (by omega) (.slice none 0 0) 0 [] rfl (World.ownsRow_nil _ _ _ _) ⟨vb, 0, none⟩ 1 1 r rfl (by rw [HR.out]) HV.out H1.out (by unfold maxLen; omega) (by omega) (by omega) ?_; intro v1 w1 hown1 hgrow1 _ _; have HO1 := Lib.hid hown1; have HG1 := Lib.hid hgrow1; clear hown1 hgrow1))
  all_goals
    go_ret
    exact ⟨_, rfl, HO1.out, HG1.out⟩
/-- where a new row comes -/
def PosL (R : Nat → LR) (n : Nat) (ref : Int) (p : Nat) : Prop := p ≤ n ∧ (∀ k, k < p → (R k).ref < ref) ∧ (p < n → ref < (R p).ref)
def AddOk (R : Nat → LR) (n : Nat) (ref : Int) : Prop := OkL R n ∧ 1 ≤ ref ∧ (∀ k, k < n → (R k).ref ≠ ref) ∧ n ≠ 100
theorem rows_ref_one (a : Int) : ∀ u ∈ ([.int .i64 a, .slice none 0 0, .slice none 0 0] : List Value), u.oneCell' = true := by
  intro u hu
  simp at hu
  rcases hu with rfl | rfl <;> rfl
def AddPost (R : Nat → LR) (n : Nat) (ref : Int) (w : World) (e : Ending) (w' : World) : Prop := (¬ AddOk R n ref ∧ RowsBad w e w') ∨ (AddOk R n ref ∧ ∃ p, PosL R n ref p ∧ RowsOk (insF R p ⟨ref, [], []⟩) (n + 1) w e w')
set_option maxRecDepth 100000 in
set_option maxHeartbeats 4000000 in
theorem add_any (A : Option Addr) (n c : Nat) (R : Nat → LR) (vw vl : Nat → Value) (ref : Int) (w : World) (hn : n ≤ c) (hc : c ≤ 9223372036854775807) (hR : RdL w A n R vw vl) :
    Calls Tryz.prog 113 #[.slice A n c, .int .i64 ref] w (AddPost R n ref w) := by
  have HR := Lib.hid hR
  clear hR
  go_enter Tryz.func113, Tryz.ntmps113
  go_wp2_with fail
  refine (check_any A n c R vw vl _ hn hc HR.out).mono ?_
  rintro e w1 ⟨x, rfl, hx, hb⟩
  have HB1 := Lib.hid hb
  have HX := Lib.hid hx
  have hs1 := hb.size
  clear hb hx
  by_cases hx0 : x = 0
  rotate_left
  · have e0 : (x != 0) = true := by simpa using hx0
    have HX0 := Lib.hid hx0
    clear hx0
    go_wp2_with fail
    go_ret2
    exact .inl ⟨fun h => HX0.out (HX.out.2 h.1), x, HX0.out, rfl, HB1.out⟩
  subst hx0
  have HK := Lib.hid (HX.out.1 rfl)
  have hn100 := HK.out.1
  go_wp2_with fail
  go_loop [7] (fun x => ∃ k : Nat, k ≤ n ∧ x = .int .i64 k ∧ ∀ j, j < k → (R j).ref < ref) (fun x => n - (intOf x).toNat)
  case atStart => exact ⟨0, Nat.zero_le _, rfl, fun j hj => by omega⟩
  case round =>
    obtain ⟨k, hk, rfl, hlow⟩ := hrel
    have HLOW := Lib.hid hlow
    clear hlow
    have m0 : (0 : Int) ≤ (k : Int) := by omega
    have bad : ∀ y : Int, y ≠ 0 → ¬ AddOk R n ref → AddPost R n ref w (.returned (.tuple #[.slice none 0 0, .int .i64 y])) w1 := fun y hy h => .inl ⟨h, y, hy, rfl, HB1.out⟩
    have BAD := Lib.hid bad
    clear bad
    by_cases hlt : k < n
    · obtain ⟨b, off, rfl, hb, hcell⟩ := HR.out.row (by omega)
      have c0 : w1.cell? ⟨b, off + k * 3, none⟩ = some (.int .i64 (R k).ref) := (HB1.out.cell (p := ⟨b, _, none⟩) hb).trans (hcell k hlt 0 _ rfl)
      have m1 : (k : Int) < (n : Int) := by omega
      clear hcell
      by_cases hl : (R k).ref < ref
      · have dl : decide ((R k).ref < ref) = true := by simpa using hl
        go_wp2_with fail
        go_round
        case rel =>
          refine ⟨k + 1, by omega, by go_num, fun j hj => ?_⟩
          by_cases e : j = k
          · subst e; exact hl
          · exact HLOW.out j (by omega)
        case measure => simp [intOf]; omega
      · have dl : decide ((R k).ref < ref) = false := by simpa using hl
        by_cases h1 : ref < 1
        · have d1 : decide (ref < 1) = true := by simpa using h1
          go_wp2_with fail
          go_ret2
          exact BAD.out 1 (by omega) (fun h => by have := h.2.1; omega)
        have d1 : decide (ref < 1) = false := by simpa using h1
        by_cases h2 : (R k).ref = ref
        · have d2 : ((R k).ref == ref) = true := by simpa using h2
          go_wp2_with fail
          go_ret2
          exact BAD.out 5 (by omega) (fun h => h.2.2.1 k hlt h2)
        have d2 : ((R k).ref == ref) = false := by simpa using h2
        by_cases h3 : n = 100
        · have d3 : ((n : Int) == 100) = true := by simp; omega
          have H3 := Lib.hid h3
          clear h3
          go_wp2_with fail
          go_ret2
          exact BAD.out 6 (by omega) (fun h => h.2.2.2 H3.out)
        have d3 : ((n : Int) == 100) = false := by simp; omega
        have HPOS := Lib.hid (show PosL R n ref k from ⟨hk, HLOW.out, fun h => by omega⟩)
        have HAOK := Lib.hid (show AddOk R n ref from ⟨HK.out, by omega, fun j hj he => by
          rcases Nat.lt_trichotomy j k with hlt2 | e | hlt2
          · have := HLOW.out j hlt2; omega
          · subst e; exact h2 he
          · have := HK.out.mono k j hlt2 hj; omega, h3⟩)
        clear h1 h3 h2
        go_wp2_with fail
        refine (copy_any (some ⟨b, off, none⟩) n c R vw vl _ hn hc hn100 (HR.out.below HB1.out) (fun j hj => ⟨(HK.out.2 j hj).2.1, (HK.out.2 j hj).2.2.1⟩)).mono ?_
        rintro e w3 ⟨v, vw', vl', rfl, hO, hb3⟩
        have HO := Lib.hid (hO.below ((Below.refl _ _).alloc (Nat.le_refl _) (.cells #[.int .i64 ref, .slice none 0 0, .slice none 0 0] 242)))
        have HB3 := Lib.hid (HB1.out.trans (hb3.mono hs1))
        have hs3 := hb3.size
        have HVB := Lib.hid (show (w3.alloc (.cells #[.int .i64 ref, .slice none 0 0, .slice none 0 0] 242)).heap[w3.heap.size]? = some (.cells ([.int .i64 ref, .slice none 0 0, .slice none 0 0] : List Value).toArray 242 (0, 0)) from by show (w3.heap.push _)[w3.heap.size]? = _; simp)
        have hrow := hO.row
        clear hO hb3 c0
        rcases hrow.2 with ⟨hv, h0⟩ | ⟨g, cap, cur, hv, _⟩
        · omega
        · subst hv
          have HGB := Lib.hid (own_lt hrow)
          clear hrow
          go_wp2_with fail
          refine (ins_any w1.heap.size g cap n k w3.heap.size (flatC (rwC R vw' vl') n) [.int .i64 ref, .slice none 0 0, .slice none 0 0] _ hk (by omega) HO.out.row HVB.out (by have := HGB.out.2; omega) rfl HO.out.one (rows_ref_one _)).mono ?_
          rintro e w4 ⟨v4, rfl, hown4, hg4⟩
          obtain ⟨A4, c4, rfl, _⟩ := own_any hown4
          have HO4 := Lib.hid hown4
          have HG4 := Lib.hid hg4
          clear hown4 hg4
          go_wp2_with fail
          go_ret2
          refine .inr ⟨HAOK.out, k, HPOS.out, A4, c4, _, _, rfl, (HO.out.ins hk HG4.out (fun j hj => hj) HO4.out).mono hs1, ?_⟩
          exact below_grown (HB3.out.alloc (by omega) _) (by simp; omega) HG4.out (fun j hj => by injection hj with hj; have := HGB.out.1; omega)
    · obtain rfl : k = n := by omega
      by_cases h1 : ref < 1
      · have d1 : decide (ref < 1) = true := by simpa using h1
        go_wp2_with fail
        go_ret2
        exact BAD.out 1 (by omega) (fun h => by have := h.2.1; omega)
      have d1 : decide (ref < 1) = false := by simpa using h1
      by_cases h3 : k = 100
      · have d3 : ((k : Int) == 100) = true := by simp; omega
        have H3 := Lib.hid h3
        clear h3
        go_wp2_with fail
        go_ret2
        exact BAD.out 6 (by omega) (fun h => h.2.2.2 H3.out)
      have d3 : ((k : Int) == 100) = false := by simp; omega
      have HPOS := Lib.hid (show PosL R k ref k from ⟨Nat.le_refl _, HLOW.out, fun h => by omega⟩)
      have HAOK := Lib.hid (show AddOk R k ref from ⟨HK.out, by omega, fun j hj he => by
        rcases Nat.lt_trichotomy j k with hlt2 | e | hlt2
        · have := HLOW.out j hlt2; omega
        · omega
        · omega, h3⟩)
      clear h1 h3
      go_wp2_with fail
      refine (copy_any A k c R vw vl _ hn hc hn100 (HR.out.below HB1.out) (fun j hj => ⟨(HK.out.2 j hj).2.1, (HK.out.2 j hj).2.2.1⟩)).mono ?_
      rintro e w3 ⟨v, vw', vl', rfl, hO, hb3⟩
      have HO := Lib.hid (hO.below ((Below.refl _ _).alloc (Nat.le_refl _) (.cells #[.int .i64 ref, .slice none 0 0, .slice none 0 0] 242)))
      have HB3 := Lib.hid (HB1.out.trans (hb3.mono hs1))
      have hs3 := hb3.size
      have HVB := Lib.hid (show (w3.alloc (.cells #[.int .i64 ref, .slice none 0 0, .slice none 0 0] 242)).heap[w3.heap.size]? = some (.cells ([.int .i64 ref, .slice none 0 0, .slice none 0 0] : List Value).toArray 242 (0, 0)) from by show (w3.heap.push _)[w3.heap.size]? = _; simp)
      have hrow := hO.row
      clear hO hb3
      rcases hrow.2 with ⟨hv, h0⟩ | ⟨g, cap, cur, hv, _⟩
      · subst hv h0
        skip
        clear hrow
        go_wp2_with fail
        refine (ins_nil w.heap.size w3.heap.size [.int .i64 ref, .slice none 0 0, .slice none 0 0] _ (by simp; omega) HVB.out rfl (rows_ref_one _)).mono ?_
        rintro e w4 ⟨v4, rfl, hown4, hg4⟩
        obtain ⟨A4, c4, rfl, _⟩ := own_any hown4
        have HO4 := Lib.hid hown4
        have HG4 := Lib.hid hg4
        clear hown4 hg4
        go_wp2_with fail
        go_ret2
        refine .inr ⟨HAOK.out, 0, HPOS.out, A4, c4, _, _, rfl, (HO.out.mono hs1).ins (Nat.zero_le _) HG4.out (fun q hq => by cases hq) (by simpa [flatC] using HO4.out), ?_⟩
        exact below_grown (HB3.out.alloc (by omega) _) (by simp; omega) HG4.out (fun q hq => by cases hq)
      · subst hv
        have HGB := Lib.hid (own_lt hrow)
        clear hrow
        go_wp2_with fail
        refine (ins_any w1.heap.size g cap k k w3.heap.size (flatC (rwC R vw' vl') k) [.int .i64 ref, .slice none 0 0, .slice none 0 0] _ (Nat.le_refl _) (by omega) HO.out.row HVB.out (by have := HGB.out.2; omega) rfl HO.out.one (rows_ref_one _)).mono ?_
        rintro e w4 ⟨v4, rfl, hown4, hg4⟩
        obtain ⟨A4, c4, rfl, _⟩ := own_any hown4
        have HO4 := Lib.hid hown4
        have HG4 := Lib.hid hg4
        clear hown4 hg4
        go_wp2_with fail
        go_ret2
        refine .inr ⟨HAOK.out, k, HPOS.out, A4, c4, _, _, rfl, (HO.out.ins (Nat.le_refl _) HG4.out (fun j hj => hj) HO4.out).mono hs1, ?_⟩
        exact below_grown (HB3.out.alloc (by omega) _) (by simp; omega) HG4.out (fun j hj => by injection hj with hj; have := HGB.out.1; omega)
def R0 : Nat → LR := fun _ => ⟨0, [], []⟩
end Go.Proofs.YthgbcgphkddmgaaGreat.Li
namespace Go.Proofs.YthgbcgphkddmgaaGreat
open Go.RowKit
set_option linter.unusedVariables false
/-- a diary: what it writes down of a runner -/
structure DiaS where
  nm : ByteArray
  r : RunS
  dk : Int
  dn : Int
/-- an actor -/
structure ActS where
  ref : Int
  d : DiaS
  box : List LT
  pos : Nat
  waits : Bool
  ticks : Int
  knows : Int → Bool
structure NdS where
  id : Int
  fuel : Nat
  acts : List ActS
  rows : List Li.LR
  homes : Int → Option Int
  spawned : Nat
  last : Int
  out : List LT
  said : List (Int × Int)
/-- the references of a value -/
def refsV : VT → Int → Bool
  | .none, _ => false
  | .node k m _ n arg, x => (k == 6 && x == m) || anyOf (fun i => refsV (arg i) x) n
def vLeaf (k m : Int) : VT := .node k m ⟨#[]⟩ 0 (fun _ => .none)
def zLT : LT := ⟨0, 0, 0, 0, ⟨#[]⟩, vLeaf 0 0⟩
def vkind : VT → Int
  | .none => 0
  | .node k _ _ _ _ => k
def vnum : VT → Int
  | .none => 0
  | .node _ m _ _ _ => m
/-- the diary goes on -/
def runD (fuel : Nat) (d : DiaS) : DiaS × OutS :=
  let p := runR fuel d.r
  (if p.2.kind = 1 then { d with r := p.1 } else { d with r := p.1, dk := p.2.kind, dn := p.2.num }, p.2)
def giveD (d : DiaS) (x : Int) : DiaS := if d.dk = 4 then { d with r := giveR d.r x, dk := 0, dn := 0 } else d
def offerD (d : DiaS) (v : VT) : DiaS × Bool :=
  if d.dk = 7 then
    let p := offerR d.r (vkind v) (vnum v)
    if p.2 then ({ d with r := p.1, dk := 0, dn := 0 }, true) else (d, false)
  else (d, false)
def lateD (d : DiaS) : DiaS := if d.dk = 7 ∧ 0 ≤ d.dn then { d with r := lateR d.r, dk := 0, dn := 0 } else d
/-- the first letter from a place on that is taken -/
def pickI (d : DiaS) (box : List LT) : Nat → Nat → Option Nat
  | 0, _ => none
  | f + 1, i => if box.length ≤ i then none else if (offerD d (box.getD i zLT).says).2 then some i else pickI d box f (i + 1)
def wakeA (a : ActS) : ActS × Bool :=
  match pickI a.d a.box (a.box.length + 1) a.pos with
  | some i => ({ a with d := (offerD a.d (a.box.getD i zLT).says).1, box := a.box.eraseIdx i, pos := 0, waits := false, knows := fun x => a.knows x || refsV (a.box.getD i zLT).says x }, true)
  | none => if a.ticks = 0 then ({ a with d := lateD a.d, pos := a.box.length, waits := false }, true) else ({ a with pos := a.box.length }, false)
def topV (r : RunS) (i : Nat) : VT := vLeaf (stN (topL r) i).1 (stN (topL r) i).2
/-- the references of leaves -/
def stKn (l : List (Int × Int)) (x : Int) : Bool := anyOf (fun i => refsV (vLeaf (stN l i).1 (stN l i).2) x) l.length
def waitA (a : ActS) (n : Int) : ActS := { a with waits := true, ticks := n, pos := 0, knows := stKn (topL a.d.r) }
def canA (a : ActS) : Bool := !a.waits || decide (a.pos < a.box.length) || decide (a.ticks = 0)
namespace NdS
def find (N : NdS) (r : Int) : Option ActS := N.acts.find? fun a => a.ref == r
def has (N : NdS) (r : Int) : Bool := (N.find r).isSome
def setA (N : NdS) (a : ActS) : NdS := { N with acts := N.acts.map fun b => if b.ref == a.ref then a else b }
def delA (N : NdS) (r : Int) : NdS := { N with acts := N.acts.filter fun a => !(a.ref == r) }
end NdS
def insA (a : ActS) : List ActS → List ActS
  | [] => [a]
  | b :: l => if a.ref < b.ref then a :: b :: l else b :: insA a l
/-- rows -/
def rowL (rows : List Li.LR) (ref : Int) : Option Li.LR := rows.find? fun r => r.ref == ref
def addL : List Li.LR → Int → List Li.LR
  | [], ref => [⟨ref, [], []⟩]
  | b :: l, ref => if ref < b.ref then ⟨ref, [], []⟩ :: b :: l else b :: addL l ref
/-- a row more, if there may be one -/
def addR (rows : List Li.LR) (ref : Int) : List Li.LR := if ref < 1 ∨ (rowL rows ref).isSome = true ∨ rows.length = 100 then rows else addL rows ref
def watchL (rows : List Li.LR) (x ref : Int) : List Li.LR := rows.map fun r => if r.ref == ref && decide (r.ws.length ≠ 100) then { r with ws := r.ws ++ [x] } else r
def linkL (rows : List Li.LR) (ref x : Int) : List Li.LR := rows.map fun r => if r.ref == ref && !r.ls.contains x && decide (r.ls.length ≠ 100) then { r with ls := r.ls ++ [x] } else r
def goneL (rows : List Li.LR) (ref : Int) : List Li.LR := rows.filter fun r => !(r.ref == ref)
def downLT (ref dst num : Int) (text : ByteArray) : LT := ⟨2, ref, dst, num, text, vLeaf 0 0⟩
def exitLT (ref dst : Int) (text : ByteArray) : LT := ⟨5, ref, dst, 0, text, vLeaf 0 0⟩
def noneS : ByteArray := ⟨#[110, 111, 110, 101]⟩
/-- the letters about an end -/
def tellL (rows : List Li.LR) (ref : Int) (failed : Bool) (text : ByteArray) : List LT :=
  match rowL rows ref with
  | none => []
  | some r => r.ws.map (fun w => downLT ref w (if failed then 1 else 0) (if failed then text else ⟨#[]⟩)) ++ (if failed then r.ls.map (fun x => exitLT ref x text) else [])
def linkedL (rows : List Li.LR) (ref dst : Int) : Bool := match rowL rows ref with
  | none => false
  | some r => r.ls.contains dst
/-- the reply for nobody -/
def noneL (x : LT) : Option LT := if x.kind = 3 then some (downLT x.to x.frm 2 ⟨#[]⟩) else if x.kind = 4 then some (exitLT x.to x.frm noneS) else none
def locN (N : NdS) (ref : Int) : Int :=
  let at_ := (N.homes ref).getD (ref.tdiv 1000)
  if at_ < 1 ∨ 8 < at_ then N.id else at_
def putBox (a : ActS) (x : LT) : ActS := if a.box.length = 60 then a else { a with box := a.box ++ [x] }
/-- a letter comes to one of this node; rem: how one is removed -/
def deliverW (rem : NdS → Int → ByteArray → NdS) (N : NdS) (x : LT) : NdS :=
  if x.kind = 1 ∨ x.kind = 2 then
    match N.find x.to with
    | none => N
    | some a => N.setA (putBox a x)
  else if x.kind = 3 then { N with rows := watchL N.rows x.frm x.to }
  else if x.kind = 4 then { N with rows := linkL N.rows x.to x.frm }
  else if x.kind = 5 then if linkedL N.rows x.to x.frm then rem N x.to x.text else N
  else N
/-- a letter is sent that nobody answers -/
def send1W (rem : NdS → Int → ByteArray → NdS) (N : NdS) (x : LT) : NdS :=
  if N.has x.to then deliverW rem N x else if locN N x.to ≠ N.id then { N with out := N.out ++ [x] } else N
def replyW (rem : NdS → Int → ByteArray → NdS) (N : NdS) (x : LT) : NdS :=
  match noneL x with
  | none => N
  | some y => send1W rem N y
def sendW (rem : NdS → Int → ByteArray → NdS) (N : NdS) (x : LT) : NdS :=
  if N.has x.to then deliverW rem N x else if locN N x.to ≠ N.id then { N with out := N.out ++ [x] } else replyW rem N x
/-- one is removed; at most k end on its account -/
def remN : Nat → NdS → Int → Bool → ByteArray → NdS
  | 0, N, _, _, _ => N
  | k + 1, N, ref, failed, text => (tellL N.rows ref failed text).foldl (sendW fun M r t => remN k M r true t) { N.delA ref with rows := goneL N.rows ref }
def rem60 (N : NdS) (r : Int) (t : ByteArray) : NdS := remN 60 N r true t
def deliverN (N : NdS) (x : LT) : NdS := deliverW rem60 N x
def sendN (N : NdS) (x : LT) : NdS := sendW rem60 N x
def replyN (N : NdS) (x : LT) : NdS := replyW rem60 N x
/-- what Put answers -/
def putN (N : NdS) (x : LT) : NdS × Int :=
  if x.kind < 1 ∨ 5 < x.kind then (N, 1)
  else match N.find x.to with
    | none => (replyN N x, 4)
    | some a => if (x.kind = 1 ∨ x.kind = 2) ∧ a.box.length = 60 then (N, 6) else (deliverN N x, 0)
def sinkS : ByteArray := ⟨#[115, 105, 110, 107]⟩
def pumpS : ByteArray := ⟨#[112, 117, 109, 112]⟩
/-- a runner, by its name and its state -/
def makeN (nm : ByteArray) (st : List (Int × Int)) : Option RunS :=
  if nm = sinkS then some ⟨false, st, 0, false, false, 0⟩ else if nm = pumpS ∧ st.length = 3 then some ⟨true, st, 0, false, false, 0⟩ else none
def newD (nm : ByteArray) (r : RunS) : DiaS := ⟨nm, r, 0, 0⟩
def spawnN (N : NdS) (nm : ByteArray) (st : List (Int × Int)) : NdS × Int × Int :=
  let ref := N.id * 1000 + N.spawned + 1
  match makeN nm st with
  | none => (N, 0, 4)
  | some r => if N.has ref then (N, 0, 5) else if 60 ≤ N.acts.length ∨ 999 ≤ N.spawned then (N, 0, 6) else
    ({ N with acts := insA ⟨ref, newD nm r, [], 0, false, 0, stKn st⟩ N.acts, rows := addR N.rows ref, spawned := N.spawned + 1 }, ref, 0)
def giveA (a : ActS) (x : Int) : ActS := { a with d := giveD a.d x, knows := fun y => a.knows y || y == x }
def stepN (N : NdS) (ref : Int) : NdS × Bool :=
  match N.find ref with
  | none => (N, false)
  | some a0 =>
    let p := if a0.waits then wakeA a0 else (a0, true)
    let N1 := N.setA p.1
    if !p.2 then (N1, false) else
    let q := runD N.fuel p.1.d
    let a := { p.1 with d := q.1 }
    let N2 := N1.setA a
    let o := q.2
    if o.kind = 2 then ({ N2 with said := N2.said ++ [(ref, o.num)] }, true)
    else if o.kind = 3 then (sendN N2 ⟨1, ref, o.num, 0, ⟨#[]⟩, vLeaf o.vk o.vn⟩, true)
    else if o.kind = 5 then (sendN N2 ⟨3, ref, o.num, 0, ⟨#[]⟩, vLeaf 0 0⟩, true)
    else if o.kind = 6 then (sendN { N2 with rows := linkL N2.rows ref o.num } ⟨4, ref, o.num, 0, ⟨#[]⟩, vLeaf 0 0⟩, true)
    else if o.kind = 4 then
      let s := spawnN N2 o.text []
      (match s.1.find ref with
        | none => s.1
        | some b => s.1.setA (giveA b s.2.1), true)
    else if o.kind = 7 then (N2.setA (waitA a o.num), true)
    else if o.kind = 8 then (remN 60 N2 ref false ⟨#[]⟩, true)
    else if o.kind = 9 then (remN 60 N2 ref true o.text, true)
    else (N2, false)
def loopN : Nat → NdS → Int → NdS
  | 0, N, _ => N
  | k + 1, N, ref => if N.has ref then (if (stepN N ref).2 then loopN k (stepN N ref).1 ref else (stepN N ref).1) else N
def readyN (N : NdS) : List Int := (N.acts.filter canA).map (·.ref)
def nextI (l : List Int) (last : Int) : Int := match l.find? (fun n => decide (last < n)) with
  | some n => n
  | none => l.headD 0
def turnN (N : NdS) : NdS × Int × Int :=
  if readyN N = [] then (N, 0, 4) else
  let r := nextI (readyN N) N.last
  (loopN N.fuel { N with last := r } r, r, 0)
def tickN (N : NdS) : NdS := { N with acts := N.acts.map fun a => if a.waits && decide (0 < a.ticks) then { a with ticks := a.ticks - 1 } else a }
def refsN (N : NdS) : List Int := N.acts.map (·.ref)
def outN (N : NdS) : NdS := { N with out := [] }
def homeN (N : NdS) (ref dst : Int) : NdS := { N with homes := fun x => if x = ref then some dst else N.homes x }
def dropN (N : NdS) (ref : Int) : NdS := if N.has ref then { N.delA ref with rows := goneL N.rows ref } else N
def newN (id : Int) (fuel : Nat) : NdS := ⟨id, fuel, [], [], fun _ => none, 0, 0, [], []⟩
end Go.Proofs.YthgbcgphkddmgaaGreat
namespace Go.Proofs.YthgbcgphkddmgaaGreat
open Go.RowKit
set_option linter.unusedVariables false
set_option linter.unusedSimpArgs false
def nthL (l : List LT) (i : Nat) : LT := l.getD i zLT
/-- values that lie in a slice -/
def RdV (w : World) (S : Nat → Prop) (A : Option Addr) (n : Nat) (arg : Nat → VT) : Prop :=
  0 < n → ∃ b off, A = some ⟨b, off, none⟩ ∧ b < w.heap.size ∧ S b ∧ ∃ C : Nat → List Value, ∀ i, i < n → (arg i).isV w S (C i) ∧ ∀ j u, (C i)[j]? = some u → w.cell? ⟨b, off + i * 4 + j, none⟩ = some u
theorem RdV.frame {w w' : World} {S S' : Nat → Prop} {A : Option Addr} {n : Nat} {arg : Nat → VT} (h : RdV w S A n arg) (hsz : w.heap.size ≤ w'.heap.size) (hS : ∀ b, S b → b < w.heap.size → S' b ∧ w'.heap[b]? = w.heap[b]?) : RdV w' S' A n arg := fun h0 => by
  obtain ⟨b, off, hA, hb, hSb, C, hC⟩ := h h0
  obtain ⟨s1, s2⟩ := hS b hSb hb
  exact ⟨b, off, hA, by omega, s1, C, fun i hi => ⟨isV_frame hsz hS (hC i hi).1, fun j u hu => (World.cell?_of_block (a := ⟨b, _, none⟩) s2).trans ((hC i hi).2 j u hu)⟩⟩
/-- a state as values -/
theorem st_rdv {w : World} {S : Nat → Prop} {A : Option Addr} {c : Nat} {r : RunS} (h : StAt w S A c (topL r)) : RdV w S A (topL r).length (topV r) := fun h0 => by
  obtain ⟨b, off, e, hb, hs, hc⟩ := h.2.2 h0
  exact ⟨b, off, e, hb, hs, fun i => stC (topL r) i, fun i hi => ⟨leaf_V w S _ _, hc i hi⟩⟩
section
variable {w w' : World} {S X X' : Nat → Prop}
/-- the frame for what avoids X -/
theorem isL_fr {l : LT} {cs : List Value} (h : l.isL w (fun k => ¬ X k) cs) (hf : Fr S w w') (hS : ∀ k, S k → X k) (hX : ∀ k, X' k → X k ∨ w.heap.size ≤ k) : l.isL w' (fun k => ¬ X' k) cs :=
  isL_frame hf.size (fun b hb hlt => ⟨fun h => by rcases hX b h with h | h; exact hb h; omega, hf.block b hlt fun hs => hb (hS b hs)⟩) h
theorem RdL.fr {A : Option Addr} {n : Nat} {arg : Nat → LT} (h : RdL w (fun k => ¬ X k) A n arg) (hf : Fr S w w') (hS : ∀ k, S k → X k) (hX : ∀ k, X' k → X k ∨ w.heap.size ≤ k) : RdL w' (fun k => ¬ X' k) A n arg :=
  h.frame hf.size (fun b hb hlt => ⟨fun h => by rcases hX b h with h | h; exact hb h; omega, hf.block b hlt fun hs => hb (hS b hs)⟩)
theorem RdV.fr {A : Option Addr} {n : Nat} {arg : Nat → VT} (h : RdV w (fun k => ¬ X k) A n arg) (hf : Fr S w w') (hS : ∀ k, S k → X k) (hX : ∀ k, X' k → X k ∨ w.heap.size ≤ k) : RdV w' (fun k => ¬ X' k) A n arg :=
  h.frame hf.size (fun b hb hlt => ⟨fun h => by rcases hX b h with h | h; exact hb h; omega, hf.block b hlt fun hs => hb (hS b hs)⟩)
end
/-- a diary at block b, of a runner at block rb; ib: the block of its inputs -/
structure DiaAt (w : World) (X : Nat → Prop) (base T b rb : Nat) (ib : Option Nat) (d : DiaS) : Prop where
  run : ∃ A c, StAt w (fun k => ¬ X k ∧ k ≠ b ∧ k ≠ rb ∧ ib ≠ some k) A c d.r.st ∧ RunAt w rb A c d.r
  c0 : w.cell? ⟨b, 0, none⟩ = some (.iface 351 (.pointer (some ⟨rb, 0, none⟩)))
  c1 : w.cell? ⟨b, 1, none⟩ = some (.string d.nm)
  c2 : ∃ A n c, w.cell? ⟨b, 2, none⟩ = some (.slice A n c) ∧ (d.dk = 7 → n = d.r.st.length ∧ n ≤ c ∧ c ≤ 9223372036854775807 ∧ RdV w (fun k => ¬ X k) A n (topV d.r))
  c3 : ∃ A n c xs, w.cell? ⟨b, 3, none⟩ = some (.slice A n c) ∧ w.ownsRow base 305 5 (.slice A n c) n xs ∧ n ≤ T ∧ (Value.slice A n c).ownBlock = ib ∧ (d.dk = 7 → n = 0 ∧ A = none ∧ c = 0)
  c4 : w.cell? ⟨b, 4, none⟩ = some (.int .i64 d.dk)
  c5 : w.cell? ⟨b, 5, none⟩ = some (.int .i64 d.dn)
  c6 : w.cell? ⟨b, 6, none⟩ = some (.string ⟨#[]⟩)
  c7 : w.cell? ⟨b, 7, none⟩ = some (.int .i64 0)
  c8 : w.cell? ⟨b, 8, none⟩ = some (.int .i64 0)
  c9 : w.cell? ⟨b, 9, none⟩ = some (.string ⟨#[]⟩)
  c10 : w.cell? ⟨b, 10, none⟩ = some (.slice none 0 0)
  c11 : w.cell? ⟨b, 11, none⟩ = some (.slice none 0 0)
  fz : ∀ o, w.frozen? ⟨b, o, none⟩ = false
  nr : b ≠ rb
  ni : ∀ k, ib = some k → k ≠ b ∧ k ≠ rb
  lb : base ≤ b ∧ base ≤ rb
  wt : d.dk = 7 → d.r.waiting = true
  pl : RunOk d.r
theorem DiaAt.lt {w : World} {X : Nat → Prop} {base T b rb : Nat} {ib : Option Nat} {d : DiaS} (h : DiaAt w X base T b rb ib d) : b < w.heap.size ∧ rb < w.heap.size ∧ ∀ k, ib = some k → base ≤ k ∧ k < w.heap.size := by
  obtain ⟨A, c, _, h2⟩ := h.run
  obtain ⟨A', n, c', xs, _, h3, _, h4, _⟩ := h.c3
  exact ⟨World.block_lt_of_cell? w _ h.c0, h2.lt, fun k hk => h3.lt k (h4.trans hk)⟩
theorem DiaAt.fr {w w' : World} {S X X' : Nat → Prop} {base T T' b rb : Nat} {ib : Option Nat} {d : DiaS} (h : DiaAt w X base T b rb ib d) (hf : Fr S w w') (hS : ∀ k, S k → X k) (hX : ∀ k, X' k → X k ∨ w.heap.size ≤ k) (hb : ∀ k, S k → base ≤ k) (hT : T ≤ T')
    (h1 : ¬ S b) (h2 : ¬ S rb) (h3 : ∀ k, ib = some k → ¬ S k) : DiaAt w' X' base T' b rb ib d := by
  obtain ⟨A, c, r1, r2⟩ := h.run
  obtain ⟨A2, n2, c2, s1, s2⟩ := h.c2
  obtain ⟨A3, n3, c3, xs, t1, t2, t3, t4, t5⟩ := h.c3
  exact ⟨⟨A, c, r1.fr hf (fun k hk hs => hk.1 (hS k hs)) (fun k hk hlt => ⟨fun hx => by rcases hX k hx with h | h; exact hk.1 h; omega, hk.2⟩), r2.fr hf h2⟩, hf.cell h.c0 h1, hf.cell h.c1 h1, ⟨A2, n2, c2, hf.cell s1 h1, fun e => by obtain ⟨u1, u2, u3, u4⟩ := s2 e; exact ⟨u1, u2, u3, u4.fr hf hS hX⟩⟩,
    ⟨A3, n3, c3, xs, hf.cell t1 h1, hf.row t2 (fun k hk => h3 k (t4.symm.trans hk)), by omega, t4, t5⟩, hf.cell h.c4 h1, hf.cell h.c5 h1, hf.cell h.c6 h1, hf.cell h.c7 h1, hf.cell h.c8 h1, hf.cell h.c9 h1, hf.cell h.c10 h1, hf.cell h.c11 h1,
    fun o => (hf.frozen (World.block_lt_of_cell? w _ h.c0) h1).trans (h.fz o), h.nr, h.ni, h.lb, h.wt, h.pl⟩
/-- a set of references in a map -/
def knG (p : Int → Bool) : Int → Option Value := fun x => if p x then some (.bool true) else none
/-- an actor at block p, its diary at b, its runner at rb, its set at kb -/
structure ActG (w : World) (X : Nat → Prop) (base T : Nat) (MA : Nat → Prop) (p b rb kb : Nat) (ib : Option Nat) (a : ActS) : Prop where
  dia : DiaAt w X base T b rb ib a.d
  a0 : w.cell? ⟨p, 0, none⟩ = some (.pointer (some ⟨b, 0, none⟩))
  a1 : w.cell? ⟨p, 1, none⟩ = some (.int .i64 a.ref)
  a2 : ∃ A c, w.cell? ⟨p, 2, none⟩ = some (.slice A a.box.length c) ∧ a.box.length ≤ c ∧ c ≤ 9223372036854775807 ∧ RdL w (fun k => ¬ X k) A a.box.length (nthL a.box)
  a3 : w.cell? ⟨p, 3, none⟩ = some (.int .i64 (a.pos : Int))
  a4 : w.cell? ⟨p, 4, none⟩ = some (.bool a.waits)
  a5 : w.cell? ⟨p, 5, none⟩ = some (.int .i64 a.ticks)
  a6 : w.cell? ⟨p, 6, none⟩ = some (.map (some kb))
  kn : ∃ n, OwnM w kb n (knG a.knows) ∧ n ≤ T
  fz : ∀ o, w.frozen? ⟨p, o, none⟩ = false
  mine : MA p ∧ MA b ∧ MA rb ∧ MA kb ∧ ∀ k, ib = some k → MA k
  ap : p ≠ b ∧ p ≠ rb ∧ p ≠ kb ∧ b ≠ kb ∧ rb ≠ kb ∧ ∀ k, ib = some k → k ≠ p ∧ k ≠ kb
  lbp : base ≤ p ∧ base ≤ kb
theorem ActG.fr {w w' : World} {S X X' MA : Nat → Prop} {base T T' p b rb kb : Nat} {ib : Option Nat} {a : ActS} (h : ActG w X base T MA p b rb kb ib a) (hf : Fr S w w') (hS : ∀ k, S k → X k) (hX : ∀ k, X' k → X k ∨ w.heap.size ≤ k) (hb : ∀ k, S k → base ≤ k) (hT : T ≤ T')
    (hM : ∀ k, MA k → ¬ S k) : ActG w' X' base T' MA p b rb kb ib a := by
  obtain ⟨m1, m2, m3, m4, m5⟩ := h.mine
  obtain ⟨A2, c2, s1, s2, s3, s4⟩ := h.a2
  obtain ⟨n, k1, k2⟩ := h.kn
  have h1 := hM p m1
  exact ⟨h.dia.fr hf hS hX hb hT (hM b m2) (hM rb m3) (fun k hk => hM k (m5 k hk)), hf.cell h.a0 h1, hf.cell h.a1 h1, ⟨A2, c2, hf.cell s1 h1, s2, s3, s4.fr hf hS hX⟩, hf.cell h.a3 h1, hf.cell h.a4 h1, hf.cell h.a5 h1, hf.cell h.a6 h1,
    ⟨n, k1.fr hf (hM kb m4), by omega⟩, fun o => (hf.frozen (World.block_lt_of_cell? w _ h.a0) h1).trans (h.fz o), h.mine, h.ap, h.lbp⟩
theorem ActG.lt {w : World} {X MA : Nat → Prop} {base T p b rb kb : Nat} {ib : Option Nat} {a : ActS} (h : ActG w X base T MA p b rb kb ib a) : p < w.heap.size ∧ kb < w.heap.size := by
  obtain ⟨n, h1, _⟩ := h.kn
  exact ⟨World.block_lt_of_cell? w _ h.a0, h1.lt⟩
theorem ActG.mono {w : World} {X MA MA' : Nat → Prop} {base T p b rb kb : Nat} {ib : Option Nat} {a : ActS} (h : ActG w X base T MA p b rb kb ib a) (hM : ∀ k, MA k → MA' k) : ActG w X base T MA' p b rb kb ib a := by
  obtain ⟨m1, m2, m3, m4, m5⟩ := h.mine
  exact { h with mine := ⟨hM _ m1, hM _ m2, hM _ m3, hM _ m4, fun k hk => hM _ (m5 k hk)⟩ }
def dRow : Li.LR := ⟨0, [], []⟩
def rowF (rows : List Li.LR) (i : Nat) : Li.LR := rows.getD i dRow
/-- rows that avoid X -/
def RowsAt (w : World) (X : Nat → Prop) (v : Value) (rows : List Li.LR) : Prop :=
  ∃ A c vw vl, v = .slice A rows.length c ∧ Li.OwnL w 0 v rows.length (rowF rows) vw vl ∧ (∀ k, v.ownBlock = some k → ¬ X k) ∧ ∀ i, i < rows.length → ∀ s k, (Li.iv vw vl i s).ownBlock = some k → ¬ X k
theorem OwnI.fr {w w' : World} {S : Nat → Prop} {base : Nat} {v : Value} {l : List Int} (h : OwnI w base v l) (hf : Fr S w w') (hn : ∀ k, v.ownBlock = some k → ¬ S k) : OwnI w' base v l := hf.row h hn
theorem RowsAt.fr {w w' : World} {S X X' : Nat → Prop} {v : Value} {rows : List Li.LR} (h : RowsAt w X v rows) (hf : Fr S w w') (hS : ∀ k, S k → X k) (hX : ∀ k, X' k → X k ∨ w.heap.size ≤ k) : RowsAt w' X' v rows := by
  obtain ⟨A, c, vw, vl, e, h1, h2, h3⟩ := h
  refine ⟨A, c, vw, vl, e, ⟨hf.row h1.row (fun k hk hs => h2 k hk (hS k hs)), fun i hi s => (h1.each i hi s).fr hf (fun k hk hs => h3 i hi s k hk (hS k hs)), h1.apart, h1.outer⟩, fun k hk hx => ?_, fun i hi s k hk hx => ?_⟩
  · rcases hX k hx with h | h
    · exact h2 k hk h
    · have := (h1.row.lt k hk).2; omega
  · rcases hX k hx with h | h
    · exact h3 i hi s k hk h
    · have := ((h1.each i hi s).lt k hk).2; omega
/-- letters that go out -/
structure OutAt (w : World) (X : Nat → Prop) (base : Nat) (v : Value) (ob : Option Nat) (C : Nat → List Value) (l : List LT) : Prop where
  row : w.ownsRow base 154 9 v l.length (flatC C l.length)
  len : ∀ i, (C i).length = 9
  each : ∀ i, i < l.length → (nthL l i).isL w (fun k => ¬ X k) (C i)
  blk : v.ownBlock = ob
theorem OutAt.fr {w w' : World} {S X X' : Nat → Prop} {base : Nat} {v : Value} {ob : Option Nat} {C : Nat → List Value} {l : List LT} (h : OutAt w X base v ob C l) (hf : Fr S w w') (hS : ∀ k, S k → X k) (hX : ∀ k, X' k → X k ∨ w.heap.size ≤ k) (hn : ∀ k, ob = some k → ¬ S k) : OutAt w' X' base v ob C l :=
  ⟨hf.row h.row (fun k hk => hn k (h.blk.symm.trans hk)), h.len, fun i hi => isL_fr (h.each i hi) hf hS hX, h.blk⟩
def saidC (l : List (Int × Int)) (i : Nat) : List Value := [.int .i64 (l.getD i (0, 0)).1, .int .i64 (l.getD i (0, 0)).2]
/-- nothing is asked of a maker without data -/
def ScrsAt (w : World) (base : Nat) (A : Option Addr) (c : Nat) : Prop := True
theorem ScrsAt.fr {w w' : World} {S : Nat → Prop} {base c : Nat} {A : Option Addr} (h : ScrsAt w base A c) (hf : Fr S w w') (hb : ∀ k, S k → base ≤ k) : ScrsAt w' base A c := trivial
end Go.Proofs.YthgbcgphkddmgaaGreat
