/- link.Gone. -/
import Derived.Test.YtcjkibjaajbfmaaLinkE
import Derived.Test.YtcjkibjaajbfmaaLinkIns
import Derived.Test.YtcjkibjaajbfmaaFlat
namespace Go.Proofs.Ytcjkibjaajbfmaa
open Go.RowKit
set_option linter.unusedVariables false
theorem iv_del (vw vl : Nat → Value) (i j : Nat) (s : Bool) : iv (delF vw i) (delF vl i) j s = iv vw vl (if j < i then j else j + 1) s := by
  unfold iv delF
  cases s <;> simp only [Bool.false_eq_true, if_false, if_true] <;> split <;> rfl
theorem il_del (R : Nat → LR) (i j : Nat) (s : Bool) : il (delF R i) j s = il R (if j < i then j else j + 1) s := by
  unfold il delF
  cases s <;> simp only [Bool.false_eq_true, if_false, if_true] <;> split <;> rfl
theorem rwC_del (R : Nat → LR) (vw vl : Nat → Value) (i : Nat) : rwC (delF R i) (delF vw i) (delF vl i) = delF (rwC R vw vl) i := by
  funext k
  unfold rwC delF
  split <;> rfl
/-- a row less -/
theorem OwnL.del {w w2 : World} {base g cap n i : Nat} {R : Nat → LR} {vw vl : Nat → Value} (h : OwnL w base (.slice (some ⟨g, 0, none⟩) n cap) n R vw vl) (hi : i < n) (hg : w.grownBy w2 (some g))
    (hown : w2.ownsRow base 68 3 (.slice (some ⟨g, 0, none⟩) (n - 1) cap) (n - 1) ((flatC (rwC R vw vl) n).take (i * 3) ++ (flatC (rwC R vw vl) n).drop ((i + 1) * 3))) :
    OwnL w2 base (.slice (some ⟨g, 0, none⟩) (n - 1) cap) (n - 1) (delF R i) (delF vw i) (delF vl i) := by
  have hx : ∀ j, j < n - 1 → (if j < i then j else j + 1) < n := fun j hj => by split <;> omega
  refine ⟨?_, fun j hj s => ?_, fun a b ha hb s t hst k hk => ?_, fun j hj s k hk => ?_⟩
  · rw [del_flatG (rwC_len _ _ _) hi] at hown
    rw [rwC_del]
    exact hown
  · rw [iv_del, il_del]
    exact (h.each _ (hx j hj) s).grown hg (fun k hk e => h.outer _ (hx j hj) s k hk (by rw [← e]; rfl))
  · rw [iv_del] at hk ⊢
    refine h.apart _ _ (hx a ha) (hx b hb) s t (fun h2 => hst ⟨?_, h2.2⟩) k hk
    have := h2.1
    split at this <;> split at this <;> omega
  · rw [iv_del] at hk
    intro e
    exact h.outer _ (hx j hj) s k hk (by rw [← e]; rfl)
/-- the cells of a letter without a value -/
def ltC (k a b n : Int) (s : ByteArray) : List Value := [.int .i64 k, .int .i64 a, .int .i64 b, .int .i64 n, .string s, .int .i64 0, .int .i64 0, .string ⟨#[]⟩, .slice none 0 0]
theorem ltC_one (k a b n : Int) (s : ByteArray) : ∀ u ∈ ltC k a b n s, u.oneCell' = true := by
  intro u hu
  simp [ltC] at hu
  rcases hu with rfl | rfl | rfl | rfl | rfl | rfl | rfl | rfl <;> rfl
/-- what is told when one is gone -/
def told (ref : Int) (failed : Bool) (text : ByteArray) (r : LR) : Nat → List Value := fun k =>
  if k < r.ws.length then ltC 2 ref (lst r.ws k) (if failed then 1 else 0) (if failed then text else ⟨#[]⟩) else ltC 5 ref (lst r.ls (k - r.ws.length)) 0 text
theorem told_len (ref : Int) (failed : Bool) (text : ByteArray) (r : LR) : ∀ k, (told ref failed text r k).length = 9 := fun k => by unfold told; split <;> rfl
def manyTold (failed : Bool) (r : LR) : Nat := r.ws.length + if failed then r.ls.length else 0
def GoneBad (P : Prop) (w : World) (e : Ending) (w' : World) : Prop := ∃ x : Int, x ≠ 0 ∧ (P → x = 4) ∧ e = .returned (.tuple #[.slice none 0 0, .slice none 0 0, .int .i64 x]) ∧ Below w.heap.size w w'
def GoneOk (R : Nat → LR) (n i : Nat) (ref : Int) (failed : Bool) (text : ByteArray) (w : World) (e : Ending) (w' : World) : Prop := ∃ A c vw vl L d, e = .returned (.tuple #[.slice A (n - 1) c, .slice L (manyTold failed (R i)) d, .int .i64 0]) ∧
  OwnL w' w.heap.size (.slice A (n - 1) c) (n - 1) (delF R i) vw vl ∧ w'.ownsRow w.heap.size 58 9 (.slice L (manyTold failed (R i)) d) (manyTold failed (R i)) (flatC (told ref failed text (R i)) (manyTold failed (R i))) ∧ Below w.heap.size w w'
theorem infoLt : (Try.prog.info? 58).map (fun i => (i.zero, i.size, i.bytes)) = some (some (.agg #[.int .i64 0, .int .i64 0, .int .i64 0, .int .i64 0, .string ⟨#[]⟩, .int .i64 0, .int .i64 0, .string ⟨#[]⟩, .slice none 0 0]), 9, 104) := by kernel_rfl
/-- the two boxes of a call of Gone -/
structure GB (wx : World) (b : Nat) (lA : Option Addr) (ln lc : Nat) (y ref num : Int) (tx : ByteArray) : Prop where
  k2 : wx.cell? ⟨b, 2, none⟩ = some (.slice lA ln lc)
  c0 : wx.cell? ⟨b + 1, 0, none⟩ = some (.int .i64 2)
  c1 : wx.cell? ⟨b + 1, 1, none⟩ = some (.int .i64 ref)
  c2 : wx.cell? ⟨b + 1, 2, none⟩ = some (.int .i64 y)
  c3 : wx.cell? ⟨b + 1, 3, none⟩ = some (.int .i64 num)
  c4 : wx.cell? ⟨b + 1, 4, none⟩ = some (.string tx)
  c5 : wx.cell? ⟨b + 1, 5, none⟩ = some (.int .i64 0)
  c6 : wx.cell? ⟨b + 1, 6, none⟩ = some (.int .i64 0)
  c7 : wx.cell? ⟨b + 1, 7, none⟩ = some (.string ⟨#[]⟩)
  c8 : wx.cell? ⟨b + 1, 8, none⟩ = some (.slice none 0 0)
  fz : ∀ o, wx.frozen? ⟨b + 1, o, none⟩ = false
  sz : b + 1 < wx.heap.size
theorem GB.grown {wx wy : World} {b : Nat} {lA : Option Addr} {ln lc : Nat} {y ref num : Int} {tx : ByteArray} {row : Option Nat} (h : GB wx b lA ln lc y ref num tx) (hg : wx.grownBy wy row) (hr : ∀ g, row = some g → b + 2 ≤ g) : GB wy b lA ln lc y ref num tx := by
  have hs := h.sz
  have k0 : ∀ o, wy.cell? ⟨b, o, none⟩ = wx.cell? ⟨b, o, none⟩ := fun o => grown_cell hg (by omega) (fun e => by have := hr b e.symm; omega)
  have k1 : ∀ o, wy.cell? ⟨b + 1, o, none⟩ = wx.cell? ⟨b + 1, o, none⟩ := fun o => grown_cell hg (by omega) (fun e => by have := hr (b + 1) e.symm; omega)
  have k3 : ∀ o, wy.frozen? ⟨b + 1, o, none⟩ = wx.frozen? ⟨b + 1, o, none⟩ := fun o => grown_frozen hg (by omega) (fun e => by have := hr (b + 1) e.symm; omega)
  exact ⟨(k0 _).trans h.k2, (k1 _).trans h.c0, (k1 _).trans h.c1, (k1 _).trans h.c2, (k1 _).trans h.c3, (k1 _).trans h.c4, (k1 _).trans h.c5, (k1 _).trans h.c6, (k1 _).trans h.c7, (k1 _).trans h.c8, fun o => (k3 o).trans (h.fz o), by have := hg.size; omega⟩
theorem GB.set {wx : World} {b : Nat} {lA : Option Addr} {ln lc : Nat} {y ref num : Int} {tx : ByteArray} (h : GB wx b lA ln lc y ref num tx) (z : Int) : GB (wx.setCell ⟨b + 1, 2, none⟩ (.int .i64 z)) b lA ln lc z ref num tx := by
  have x2 : (wx.cell? ⟨b + 1, 2, none⟩).isSome = true := by rw [h.c2]; rfl
  constructor
  · simp [go_sem, h.k2]
  · simp [go_sem, h.c0]
  · simp [go_sem, h.c1]
  · simp [go_sem, x2]
  · simp [go_sem, h.c3]
  · simp [go_sem, h.c4]
  · simp [go_sem, h.c5]
  · simp [go_sem, h.c6]
  · simp [go_sem, h.c7]
  · simp [go_sem, h.c8]
  · intro o; simp [go_sem, h.fz]
  · simpa using h.sz
theorem OwnL.one {w : World} {base : Nat} {v : Value} {n : Nat} {R : Nat → LR} {vw vl : Nat → Value} (h : OwnL w base v n R vw vl) : ∀ u ∈ flatC (rwC R vw vl) n, u.oneCell' = true := by
  intro u hu
  obtain ⟨k, hk, hu⟩ := flatC_mem hu
  obtain ⟨wA, wc, hvw, _⟩ := own_any (h.each k hk true)
  obtain ⟨lA, lc, hvl, _⟩ := own_any (h.each k hk false)
  have hvw' : vw k = _ := hvw
  have hvl' : vl k = _ := hvl
  simp only [rwC, List.mem_cons, List.not_mem_nil, or_false] at hu
  rcases hu with rfl | rfl | rfl
  · rfl
  · rw [hvw']; rfl
  · rw [hvl']; rfl
set_option maxHeartbeats 2000000 in
theorem gone_bad (A : Option Addr) (n c : Nat) (R : Nat → LR) (vw vl : Nat → Value) (ref : Int) (failed : Bool) (text : ByteArray) (w : World) (hn : n ≤ c) (hc : c ≤ 9223372036854775807) (hR : RdL w A n R vw vl) (hno : ¬ ∃ i, OkIx R n ref i) :
    Calls Try.prog 33 #[.slice A n c, .int .i64 ref, .bool failed, .string text] w (GoneBad (OkL R n) w) := by
  have H := Lib.hid (begin_bad A n c R vw vl ref w hn hc hR hno)
  clear hR hno
  go_enter Try.func33, Try.ntmps33
  go_wp2_with fail
  refine H.out.mono ?_
  rintro e w1 ⟨y, hy, h4, rfl, hb⟩
  have HY := Lib.hid hy
  have H4 := Lib.hid h4
  have HB := Lib.hid hb
  have e0 : (y != 0) = true := by simpa using hy
  clear hy hb h4
  go_wp2_with fail
  go_ret3
  exact ⟨y, HY.out, H4.out, rfl, HB.out⟩
set_option maxRecDepth 100000 in
set_option maxHeartbeats 4000000 in
theorem gone_ok (A : Option Addr) (n c : Nat) (R : Nat → LR) (vw vl : Nat → Value) (ref : Int) (failed : Bool) (text : ByteArray) (i : Nat) (w : World) (hn : n ≤ c) (hc : c ≤ 9223372036854775807) (hR : RdL w A n R vw vl) (hi : OkIx R n ref i) :
    Calls Try.prog 33 #[.slice A n c, .int .i64 ref, .bool failed, .string text] w (GoneOk R n i ref failed text w) := by
  have hin := hi.2.1
  have hw100 := (hi.1.2 i hi.2.1).2.1
  have hl100 := (hi.1.2 i hi.2.1).2.2.1
  have hn100 := hi.1.1
  have H := Lib.hid (begin_ok A n c R vw vl ref i w hn hc hR hi)
  clear hR hi
  go_enter Try.func33, Try.ntmps33
  go_wp2_with fail
  refine H.out.mono ?_
  rintro e w1 ⟨A1, c1, vw1, vl1, rfl, hO, hb⟩
  obtain ⟨g, cap, hv, hbase, hglt, hnc, hcm⟩ := own_form hO.row (by omega)
  injection hv with e1 _ e3
  subst e1 e3
  obtain ⟨wA, wc, hvw, q1, q2, _⟩ := own_any (hO.each i hin true)
  have hvw' : vw1 i = .slice wA (R i).ws.length wc := hvw
  obtain ⟨lA, lc, hvl, q3, q4, _⟩ := own_any (hO.each i hin false)
  have hvl' : vl1 i = .slice lA (R i).ls.length lc := hvl
  have c0 : w1.cell? ⟨g, i * 3, none⟩ = some (.int .i64 (R i).ref) := by
    have := own_cellC hO.row (rwC_len _ _ _) hin (j := 0) (by omega)
    simpa [rwC] using this
  have c1' : w1.cell? ⟨g, i * 3 + 1, none⟩ = some (.slice wA (R i).ws.length wc) := by
    rw [own_cellC hO.row (rwC_len _ _ _) hin (j := 1) (by omega)]
    simp [rwC, hvw']
  have c2' : w1.cell? ⟨g, i * 3 + 2, none⟩ = some (.slice lA (R i).ls.length lc) := by
    rw [own_cellC hO.row (rwC_len _ _ _) hin (j := 2) (by omega)]
    simp [rwC, hvl']
  have HRW := Lib.hid (show Rd w1 1 (tmC (lst (R i).ws)) wA (R i).ws.length from OwnI.rd (by have := hO.each i hin true; rw [hvw] at this; exact this))
  have HRL := Lib.hid (show Rd w1 1 (tmC (lst (R i).ls)) lA (R i).ls.length from OwnI.rd (by have := hO.each i hin false; rw [hvl] at this; exact this))
  have HO := Lib.hid hO
  have HB := Lib.hid hb
  have hz := hb.size
  have j0 : (0 : Int) ≤ (i : Int) := by omega
  have j1 : (i : Int) < (n : Int) := by omega
  clear hO hb hvw hvw' hvl hvl'
  cases failed with
  | false =>
    go_wp2_with fail
    obtain ⟨i0, hi0, hz0, hz1, hz2⟩ := info_parts infoLt
    have hb14 : w1.heap.size ≤ w1.heap.size := Nat.le_refl _
    clear c0 c1' c2'
    go_loopw [16, 18, 44] (fun o _ x wx => ∃ (k : Nat) (v : Value) (y : Int), k ≤ (R i).ws.length ∧ x = .int .i64 k ∧ v = o ∧ GB wx w1.heap.size lA (R i).ls.length lc y ref 0 ⟨#[]⟩ ∧ Below w1.heap.size w1 wx ∧ wx.ownsRow (w1.heap.size + 2) 58 9 v k (flatC (told ref false text (R i)) k)) (fun _ _ x _ => (R i).ws.length - (intOf x).toNat)
    case atStart =>
      refine ⟨0, _, 0, Nat.zero_le _, rfl, rfl, ?_, ?_, World.ownsRow_nil _ _ _ _⟩
      · constructor
        any_goals (first | simp [go_sem] | (intro o; simp [go_sem]))
      · first
          | exact ((Below.refl _ _).alloc (Nat.le_refl _) _).alloc (by simp) _
          | exact below_set (below_set (((Below.refl _ _).alloc (Nat.le_refl _) _).alloc (by simp) _) (by omega)) (by omega)
    case round =>
      obtain ⟨k, v, y, hk, rfl, rfl, hG, hB, hV⟩ := hrel
      obtain ⟨Av, cv, rfl, v1, v2, _⟩ := own_any hV
      have HG := Lib.hid hG
      have HBx := Lib.hid hB
      have HV := Lib.hid hV
      have hBs := hB.size
      by_cases hlt : k < (R i).ws.length
      · obtain ⟨bl, ol, rfl, hbl, hcl⟩ := HRW.out (by omega)
        have f0 : wr.cell? ⟨bl, ol + k, none⟩ = some (.int .i64 (lst (R i).ws k)) := (hB.cell (p := ⟨bl, _, none⟩) hbl).trans (by simpa using hcl k hlt 0 _ rfl)
        have HT := Lib.hid (show told ref false text (R i) k = ltC 2 ref (lst (R i).ws k) 0 ⟨#[]⟩ by unfold told; rw [if_pos hlt]; rfl)
        generalize lst (R i).ws k = z at *
        obtain ⟨k2, c0, c1, c2, c3, c4, c5, c6, c7, c8, fz, hsz⟩ := hG
        have m0 : (0 : Int) ≤ (k : Int) := by omega
        have m1 : (k : Int) < ((R i).ws.length : Int) := by omega
        have HG2 := Lib.hid (HG.out.set z)
        have HV2 := Lib.hid (own_set (b := w1.heap.size + 1) (o := 2) (u := .int .i64 z) HV.out (by omega))
        have HB2 := Lib.hid (below_set (b := w1.heap.size + 1) (o := 2) (u := .int .i64 z) HBx.out (by omega))
        have HKL := Lib.hid (show k ≤ 1000 by omega)
        clear hcl hB hV hBs
        go_wp2_with (at_builtin; go_loud (refine wpList_append_own_at _ rfl _ _ 63 rfl (w1.heap.size + 2) 58 i0 _ 9 104 Try.underlying63 hi0 hz0 hz1 hz2 rfl (by omega) (.slice Av k cv) k (flatC (told ref false text (R i)) k) rfl (HV2.out.alloc _) ⟨wr.heap.size, 0, none⟩ 1 1 (ltC 2 ref z 0 ⟨#[]⟩) rfl rfl (cell_newL _ _ _ _ (by simp)) (ltC_one _ _ _ _ _) (by have := HKL.out; unfold maxLen; omega) (by have := HKL.out; omega) (by simp; have := HG.out.sz; omega) ?_; intro v8 w8 hown8 hgrow8 _ _; have HO8 := Lib.hid hown8; have HG8 := Lib.hid hgrow8; clear hown8 hgrow8))
        have HBK := Lib.hid (fun g (hg : (Value.slice Av k cv).ownBlock = some g) => (HV.out.lt g hg).1)
        refine ⟨⟨k + 1, v8, z, by omega, by go_num, rfl, ?_, ?_, ?_⟩, by simp [intOf]; omega⟩
        · exact (HG2.out.grown (World.grownBy_alloc _ _ none) (fun g hg => by cases hg)).grown HG8.out (fun g hg => HBK.out g hg)
        · exact below_grown (HB2.out.alloc (by simp; have := HBx.out.size; omega) _) (by simp; have := HBx.out.size; omega) HG8.out (fun g hg => by have := HBK.out g hg; omega)
        · rw [flatC, HT.out]
          exact HO8.out
      · obtain rfl : k = (R i).ws.length := by omega
        have HOX := Lib.hid (HO.out.below HBx.out)
        have w1i : IntKind.i64.wrap ((i : Int) + 1) = (i : Int) + 1 := by rw [IntKind.wrap_i64]; omega
        have j2 : (i : Int) + 1 ≤ (n : Int) := by omega
        clear hG hB hV
        go_wp2_with fail
        refine (del_one w.heap.size g c1 n i (flatC (rwC R vw1 vl1) n) _ hin HOX.out.row HOX.out.one).mono ?_
        rintro e w9 ⟨rfl, hown9, hg9⟩
        have HO9 := Lib.hid hown9
        have HG9 := Lib.hid hg9
        clear hown9 hg9
        go_wp2_with fail
        go_ret3
        refine ⟨some ⟨g, 0, none⟩, c1, delF vw1 i, delF vl1 i, Av, cv, rfl, HOX.out.del hin HG9.out HO9.out, ?_, ?_⟩
        · exact own_mono (own_grown HV.out HG9.out (fun k hk e => by have := (HV.out.lt k hk).1; injection e with e; omega)) (by omega)
        · exact below_grown (HB.out.trans (HBx.out.mono hz)) (by omega) HG9.out (fun k hk => by injection hk with hk; omega)
  | true =>
    go_wp2_with fail
    obtain ⟨i0, hi0, hz0, hz1, hz2⟩ := info_parts infoLt
    have hb14 : w1.heap.size ≤ w1.heap.size := Nat.le_refl _
    clear c0 c1' c2'
    go_loopw [16, 18, 44] (fun o _ x wx => ∃ (k : Nat) (v : Value) (y : Int), k ≤ (R i).ws.length ∧ x = .int .i64 k ∧ v = o ∧ GB wx w1.heap.size lA (R i).ls.length lc y ref 1 text ∧ Below w1.heap.size w1 wx ∧ wx.ownsRow (w1.heap.size + 2) 58 9 v k (flatC (told ref true text (R i)) k)) (fun _ _ x _ => (R i).ws.length - (intOf x).toNat)
    case atStart =>
      refine ⟨0, _, 0, Nat.zero_le _, rfl, rfl, ?_, ?_, World.ownsRow_nil _ _ _ _⟩
      · constructor
        any_goals (first | simp [go_sem] | (intro o; simp [go_sem]))
      · first
          | exact ((Below.refl _ _).alloc (Nat.le_refl _) _).alloc (by simp) _
          | exact below_set (below_set (((Below.refl _ _).alloc (Nat.le_refl _) _).alloc (by simp) _) (by omega)) (by omega)
    case round =>
      obtain ⟨k, v, y, hk, rfl, rfl, hG, hB, hV⟩ := hrel
      obtain ⟨Av, cv, rfl, v1, v2, _⟩ := own_any hV
      have HG := Lib.hid hG
      have HBx := Lib.hid hB
      have HV := Lib.hid hV
      have hBs := hB.size
      by_cases hlt : k < (R i).ws.length
      · obtain ⟨bl, ol, rfl, hbl, hcl⟩ := HRW.out (by omega)
        have f0 : wr.cell? ⟨bl, ol + k, none⟩ = some (.int .i64 (lst (R i).ws k)) := (hB.cell (p := ⟨bl, _, none⟩) hbl).trans (by simpa using hcl k hlt 0 _ rfl)
        have HT := Lib.hid (show told ref true text (R i) k = ltC 2 ref (lst (R i).ws k) 1 text by unfold told; rw [if_pos hlt]; rfl)
        generalize lst (R i).ws k = z at *
        obtain ⟨k2, c0, c1, c2, c3, c4, c5, c6, c7, c8, fz, hsz⟩ := hG
        have m0 : (0 : Int) ≤ (k : Int) := by omega
        have m1 : (k : Int) < ((R i).ws.length : Int) := by omega
        have HG2 := Lib.hid (HG.out.set z)
        have HV2 := Lib.hid (own_set (b := w1.heap.size + 1) (o := 2) (u := .int .i64 z) HV.out (by omega))
        have HB2 := Lib.hid (below_set (b := w1.heap.size + 1) (o := 2) (u := .int .i64 z) HBx.out (by omega))
        have HKL := Lib.hid (show k ≤ 1000 by omega)
        clear hcl hB hV hBs
        go_wp2_with (at_builtin; go_loud (refine wpList_append_own_at _ rfl _ _ 63 rfl (w1.heap.size + 2) 58 i0 _ 9 104 Try.underlying63 hi0 hz0 hz1 hz2 rfl (by omega) (.slice Av k cv) k (flatC (told ref true text (R i)) k) rfl (HV2.out.alloc _) ⟨wr.heap.size, 0, none⟩ 1 1 (ltC 2 ref z 1 text) rfl rfl (cell_newL _ _ _ _ (by simp)) (ltC_one _ _ _ _ _) (by have := HKL.out; unfold maxLen; omega) (by have := HKL.out; omega) (by simp; have := HG.out.sz; omega) ?_; intro v8 w8 hown8 hgrow8 _ _; have HO8 := Lib.hid hown8; have HG8 := Lib.hid hgrow8; clear hown8 hgrow8))
        have HBK := Lib.hid (fun g (hg : (Value.slice Av k cv).ownBlock = some g) => (HV.out.lt g hg).1)
        refine ⟨⟨k + 1, v8, z, by omega, by go_num, rfl, ?_, ?_, ?_⟩, by simp [intOf]; omega⟩
        · exact (HG2.out.grown (World.grownBy_alloc _ _ none) (fun g hg => by cases hg)).grown HG8.out (fun g hg => HBK.out g hg)
        · exact below_grown (HB2.out.alloc (by simp; have := HBx.out.size; omega) _) (by simp; have := HBx.out.size; omega) HG8.out (fun g hg => by have := HBK.out g hg; omega)
        · rw [flatC, HT.out]
          exact HO8.out
      · obtain rfl : k = (R i).ws.length := by omega
        obtain ⟨k2, c0, c1_, c2, c3, c4, c5, c6, c7, c8, fz, hsz⟩ := hG
        have hk2 : w1.heap.size < wr.heap.size := by omega
        clear hB hV c0 c1_ c2 c3 c4 c5 c6 c7 c8 fz
        go_wp2_with fail
        clear k2
        go_loopw [16, 20, 59] (fun o _ x wx => ∃ (q : Nat) (v : Value), q ≤ (R i).ls.length ∧ x = .int .i64 q ∧ v = o ∧ Below w1.heap.size w1 wx ∧ w1.heap.size + 2 ≤ wx.heap.size ∧ wx.ownsRow (w1.heap.size + 2) 58 9 v ((R i).ws.length + q) (flatC (told ref true text (R i)) ((R i).ws.length + q))) (fun _ _ x _ => (R i).ls.length - (intOf x).toNat)
        case atStart => exact ⟨0, _, Nat.zero_le _, rfl, rfl, HBx.out, by have := HG.out.sz; omega, HV.out⟩
        case round =>
          clear HBx HV HG
          obtain ⟨q, v, hq, rfl, rfl, hB, hsz2, hV⟩ := hrel
          obtain ⟨Av, cv, rfl, v1, v2, _⟩ := own_any hV
          have HBx := Lib.hid hB
          have HV := Lib.hid hV
          have hBs := hB.size
          by_cases hlt : q < (R i).ls.length
          · obtain ⟨bl, ol, rfl, hbl, hcl⟩ := HRL.out (by omega)
            have f0 : wr.cell? ⟨bl, ol + q, none⟩ = some (.int .i64 (lst (R i).ls q)) := (hB.cell (p := ⟨bl, _, none⟩) hbl).trans (by simpa using hcl q hlt 0 _ rfl)
            have HT := Lib.hid (show told ref true text (R i) ((R i).ws.length + q) = ltC 5 ref (lst (R i).ls q) 0 text by unfold told; rw [if_neg (by omega), Nat.add_sub_cancel_left])
            generalize lst (R i).ls q = z at *
            have m0 : (0 : Int) ≤ (q : Int) := by omega
            have m1 : (q : Int) < ((R i).ls.length : Int) := by omega
            have HKL := Lib.hid (show (R i).ws.length + q ≤ 1000 by omega)
            clear hcl hB hV hBs
            go_wp2_with (at_builtin; go_loud (refine wpList_append_own_at _ rfl _ _ 63 rfl (w1.heap.size + 2) 58 i0 _ 9 104 Try.underlying63 hi0 hz0 hz1 hz2 rfl (by omega) (.slice Av ((R i).ws.length + q) cv) ((R i).ws.length + q) (flatC (told ref true text (R i)) ((R i).ws.length + q)) rfl (HV.out.alloc _) ⟨wr.heap.size, 0, none⟩ 1 1 (ltC 5 ref z 0 text) rfl rfl (cell_newL _ _ _ _ (by simp)) (ltC_one _ _ _ _ _) (by have := HKL.out; unfold maxLen; omega) (by have := HKL.out; omega) (by simp; omega) ?_; intro v8 w8 hown8 hgrow8 _ _; have HO8 := Lib.hid hown8; have HG8 := Lib.hid hgrow8; clear hown8 hgrow8))
            have HBK := Lib.hid (fun g (hg : (Value.slice Av ((R i).ws.length + q) cv).ownBlock = some g) => (HV.out.lt g hg).1)
            refine ⟨⟨q + 1, v8, by omega, by go_num, rfl, ?_, by have := HG8.out.size; simp at this; omega, ?_⟩, by simp [intOf]; omega⟩
            · exact below_grown (HBx.out.alloc (by omega) _) (by simp; omega) HG8.out (fun g hg => by have := HBK.out g hg; omega)
            · rw [show (R i).ws.length + (q + 1) = ((R i).ws.length + q) + 1 by omega, flatC, HT.out]
              exact HO8.out
          · obtain rfl : q = (R i).ls.length := by omega
            have HOX := Lib.hid (HO.out.below HBx.out)
            have w1i : IntKind.i64.wrap ((i : Int) + 1) = (i : Int) + 1 := by rw [IntKind.wrap_i64]; omega
            have j2 : (i : Int) + 1 ≤ (n : Int) := by omega
            clear hB hV
            go_wp2_with fail
            refine (del_one w.heap.size g c1 n i (flatC (rwC R vw1 vl1) n) _ hin HOX.out.row HOX.out.one).mono ?_
            rintro e w9 ⟨rfl, hown9, hg9⟩
            have HO9 := Lib.hid hown9
            have HG9 := Lib.hid hg9
            clear hown9 hg9
            go_wp2_with fail
            go_ret3
            refine ⟨some ⟨g, 0, none⟩, c1, delF vw1 i, delF vl1 i, Av, cv, rfl, HOX.out.del hin HG9.out HO9.out, ?_, ?_⟩
            · exact own_mono (own_grown HV.out HG9.out (fun k hk e => by have := (HV.out.lt k hk).1; injection e with e; omega)) (by omega)
            · exact below_grown (HB.out.trans (HBx.out.mono hz)) (by omega) HG9.out (fun k hk => by injection hk with hk; omega)
end Go.Proofs.Ytcjkibjaajbfmaa
