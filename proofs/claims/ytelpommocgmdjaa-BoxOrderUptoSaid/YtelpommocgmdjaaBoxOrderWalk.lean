/- The walk of the law BoxOrder. -/
import Derived.Test.YtelpommocgmdjaaBoxFrom
import Derived.Test.YtelpommocgmdjaaBoxFullWalk
import Derived.Test.YtelpommocgmdjaaSameL
namespace Go.Proofs.Ytelpommocgmdjaa
open Go.RowKit Go.ChangeShapes Go.WideShapes
set_option linter.unusedVariables false
theorem OwnL.rdL {w : World} {base n c : Nat} {S : Nat → Prop} {A : Option Addr} {L : List LT} (h : OwnL w base S (.slice A n c) L) : RdL w (fun _ => True) A L.length (fun i => L.getD i noLetter) := fun h0 => by
  obtain ⟨C, h1, h2, h3⟩ := h
  obtain ⟨g, cap, hv, hb, hlt, _⟩ := own_form h1 h0
  injection hv with e1 e2 e3
  subst e1 e2 e3
  exact ⟨g, 0, rfl, hlt, trivial, C, fun i hi => ⟨isL_mono (h3 i hi) (fun _ _ _ => trivial), fun j u hu => by
    have hj : j < 9 := by
      rcases Nat.lt_or_ge j 9 with hh | hh
      · exact hh
      · rw [List.getElem?_eq_none (by rw [h2]; exact hh)] at hu; cases hu
    have := own_cellC h1 h2 hi hj
    rw [Nat.zero_add, this]
    exact hu⟩⟩
/-- the state of the law's loop -/
structure BO (w wr : World) (at_ who : Int) (A : Option Addr) (n c : Nat) (arg : Nat → LT) (v : Value) (L : List LT) : Prop where
  c0 : wr.cell? ⟨w.heap.size, 0, none⟩ = some (.slice A n c)
  c1 : wr.cell? ⟨w.heap.size, 1, none⟩ = some (.int .i64 at_)
  f : ∀ o, wr.frozen? ⟨w.heap.size, o, none⟩ = false
  hnc : n ≤ c
  hcm : c ≤ 9223372036854775807
  rd : RdL wr (fun b => b ≠ w.heap.size ∧ some b ≠ v.ownBlock) A n arg
  ok : OkBox n at_ arg
  many : ∀ i, i < n → (arg i).val.many ≤ 4194304
  was : OwnL wr (w.heap.size + 1) (fun b => b ≠ w.heap.size) v L
  hz : w.heap.size < wr.heap.size
  hB : Below w.heap.size w wr
theorem BO.below {w wr wx : World} {at_ who : Int} {A : Option Addr} {n c : Nat} {arg : Nat → LT} {v : Value} {L : List LT} (h : BO w wr at_ who A n c arg v L) (hb : Below wr.heap.size wr wx) : BO w wx at_ who A n c arg v L :=
  ⟨(hb.cell (p := ⟨_, _, none⟩) h.hz).trans h.c0, (hb.cell (p := ⟨_, _, none⟩) h.hz).trans h.c1, fun o => (hb.frozen (p := ⟨_, _, none⟩) h.hz).trans (h.f o), h.hnc, h.hcm, h.rd.below hb, h.ok, h.many, h.was.below hb, Nat.lt_of_lt_of_le h.hz hb.size, h.hB.trans (hb.mono h.hB.size)⟩
theorem BO.put {w wr w3 : World} {at_ who : Int} {A A3 : Option Addr} {n c c3 : Nat} {arg : Nat → LT} {v : Value} {L : List LT} {x : LT} (h : BO w wr at_ who A n c arg v L) (ok' : OkBox (n + 1) at_ (fun i => if i = n then x else arg i)) (hmx : x.val.many ≤ 4194304)
    (hnc3 : n + 1 ≤ c3) (hcm3 : c3 ≤ 9223372036854775807) (hR3 : RdL w3 (fun b => wr.heap.size ≤ b) A3 (n + 1) (fun i => if i = n then x else arg i)) (hb : Below wr.heap.size wr w3) :
    BO w ((w3.setCell ⟨w.heap.size, 0, none⟩ (.slice A3 (n + 1) c3)).setCell ⟨w.heap.size, 1, none⟩ (.int .i64 at_)) at_ who A3 (n + 1) c3 (fun i => if i = n then x else arg i) v L := by
  have h4 := h.below hb
  have hg : w3.grownBy ((w3.setCell ⟨w.heap.size, 0, none⟩ (.slice A3 (n + 1) c3)).setCell ⟨w.heap.size, 1, none⟩ (.int .i64 at_)) (some w.heap.size) := grown_set (grown_set (grown_self _ _) _) _
  have hblk : ∀ k, v.ownBlock = some k → w.heap.size + 1 ≤ k ∧ k < wr.heap.size := fun k hk => by obtain ⟨C, h1, _⟩ := h.was; exact h1.lt k hk
  refine ⟨?_, World.cell?_setCell_same _ _ _ (u := .int .i64 at_) ((World.cell?_setCell_other _ _ _ _ (by simp)).trans h4.c1), fun o => by simpa using h4.f o, hnc3, hcm3, ?_, ok', fun i hi => ?_, ?_, by simpa using h4.hz, below_set (below_set h4.hB (Nat.le_refl _)) (Nat.le_refl _)⟩
  · exact (World.cell?_setCell_other _ _ _ _ (by simp)).trans (World.cell?_setCell_same _ _ _ h4.c0)
  · have hz := h.hz
    have hz3 := hb.size
    refine hR3.frame (by simp) (fun b hs hlt => ⟨⟨by omega, fun e => by have := (hblk b e.symm).2; omega⟩, ?_⟩)
    exact hg.block b hlt (by simp; omega)
  · by_cases e : i = n
    · simp only [e, if_true]; exact hmx
    · simp only [e, if_false]; exact h.many i (by omega)
  · refine h4.was.frame hg.size (fun _ ho => own_grown ho hg (fun k hk e => by have := (hblk k hk).1; injection e with e; omega)) (fun b hs hlt hne => hg.block b hlt (fun e => hs (by injection e)))
theorem BO.app {w wr w5 : World} {at_ who : Int} {A : Option Addr} {n c : Nat} {arg : Nat → LT} {v v' : Value} {L : List LT} {x : LT} {cs : List Value} {C : Nat → List Value} (h : BO w wr at_ who A n c arg v L)
    (h1 : w5.ownsRow (w.heap.size + 1) 45 9 v' (L.length + 1) (flatC C L.length ++ cs)) (h2 : ∀ i, (C i).length = 9) (h3 : ∀ i, i < L.length → (L.getD i noLetter).isL wr (fun b => b ≠ w.heap.size ∧ some b ≠ v.ownBlock) (C i))
    (hx : x.isL wr (fun b => b < w.heap.size) cs) (hg : wr.grownBy w5 v.ownBlock) (hat : v'.ownBlock = v.ownBlock ∨ ∃ q, v'.ownBlock = some q ∧ wr.heap.size ≤ q) : BO w w5 at_ who A n c arg v' (L ++ [x]) := by
  have hblk : ∀ k, v.ownBlock = some k → w.heap.size + 1 ≤ k ∧ k < wr.heap.size := fun k hk => by obtain ⟨C, h1, _⟩ := h.was; exact h1.lt k hk
  have hne : some w.heap.size ≠ v.ownBlock := fun e => by have := (hblk _ e.symm).1; omega
  refine ⟨(grown_cell hg h.hz hne).trans h.c0, (grown_cell hg h.hz hne).trans h.c1, fun o => (grown_frozen hg h.hz hne).trans (h.f o), h.hnc, h.hcm, ?_, h.ok, h.many, ?_, Nat.lt_of_lt_of_le h.hz hg.size, below_grown h.hB h.hB.size hg (fun k hk => by have := (hblk k hk).1; omega)⟩
  · refine h.rd.frame hg.size (fun b hs hlt => ⟨⟨hs.1, ?_⟩, hg.block b hlt hs.2⟩)
    rcases hat with e | ⟨q, e, hle⟩
    · rw [e]; exact hs.2
    · rw [e]; intro e; injection e with e; omega
  · exact OwnL.snoc h2 h3 (isL_mono hx (fun b _ hb' => ⟨by omega, fun e => by have := (hblk b e.symm).1; omega⟩)) hg hat h1
/-- a letter has come into the box -/
theorem OkBox.snoc {n : Nat} {at_ : Int} {arg : Nat → LT} {x : LT} (h : OkBox n at_ arg) (h6 : n < 60) (hf : fitsB x.kind = true) : OkBox (n + 1) at_ (fun i => if i = n then x else arg i) := by
  obtain ⟨h1, h2, h3, h4⟩ := h
  refine ⟨by omega, h2, by omega, fun i hi => ?_⟩
  by_cases e : i = n
  · simp only [e, if_true]; exact hf
  · simp only [e, if_false]; exact h4 i (by omega)
theorem fromL_put (arg : Nat → LT) (who : Int) (n : Nat) (x : LT) : fromL (fun i => if i = n then x else arg i) who (n + 1) = fromL arg who n ++ (if x.frm == who then [x] else []) := by
  rw [fromL_succ]
  simp only [if_true]
  congr 1
  unfold fromL lettersTo
  congr 1
  apply List.map_congr_left
  intro k hk
  rw [List.mem_range] at hk
  rw [if_neg (by omega)]
theorem allTo_refl {w : World} {S : Nat → Prop} {A : Option Addr} {n : Nat} {arg : Nat → LT} (h : RdL w S A n arg) : (n == n && allTo (fun i => sameLB (arg i) (arg i)) n) = true := by
  have h1 : allTo (fun i => sameLB (arg i) (arg i)) n = true := by
    rw [allTo_true]
    intro i hi
    obtain ⟨b, off, _, _, _, C, hC⟩ := h (by omega)
    exact sameLB_refl (hC i hi).1
  simp [h1]
theorem cell_nine_at (w : World) (a b c d e f g h i : Value) (t : TypeId) (H : Nat) (hH : w.heap.size = H) : ∀ j u, [a, b, c, d, e, f, g, h, i][j]? = some u → (w.alloc (.cells #[a, b, c, d, e, f, g, h, i] t)).cell? ((⟨H, 0, none⟩ : Addr).add j) = some u := by
  subst hH
  exact cell_nine_new w a b c d e f g h i t
def PutAll (n : Nat) (at_ : Int) (arg : Nat → LT) (x : LT) (w : World) (e : Ending) (w' : World) : Prop :=
  (PutErr (· ≠ 0) w e w') ∨ (fitsB x.kind = true ∧ n < 60 ∧ PutPost n at_ arg x w e w')
theorem put_any (n c : Nat) (A : Option Addr) (at_ : Int) (arg : Nat → LT) (S : Nat → Prop) (x : LT) (cs : List Value) (Sx : Nat → Prop) (w : World) (hnc : n ≤ c) (hcm : c ≤ 9223372036854775807) (hR : RdL w S A n arg) (hx : x.isL w Sx cs) (ok : OkBox n at_ arg) (hma : ∀ i, i < n → (arg i).val.many ≤ 4194304) (hmx : x.val.many ≤ 4194304) :
    Calls Try.prog 25 #[.agg #[.slice A n c, .int .i64 at_], .agg cs.toArray] w (PutAll n at_ arg x w) := by
  by_cases hf : fitsB x.kind = true
  · by_cases h6 : n = 60
    · refine (put_full n c A at_ arg S x cs Sx w hnc hcm hR hx ok hf h6).mono ?_
      rintro e w' ⟨y, he, hy, hb⟩
      exact .inl ⟨y, he, by omega, hb⟩
    · have h7 : n < 60 := by have := ok.1; omega
      exact (put_ok n c A at_ arg S x cs Sx w hnc hcm hR hx ok hf h7 hma hmx).mono fun e w' h => .inr ⟨hf, h7, h⟩
  · refine (put_form n c A at_ arg S x cs Sx w hnc hcm hR hx ok (by simpa using hf)).mono ?_
    rintro e w' ⟨y, he, hy, hb⟩
    exact .inl ⟨y, he, by omega, hb⟩
set_option maxRecDepth 100000 in
set_option maxHeartbeats 4000000 in
theorem boxOrder_ok (n0 c0' : Nat) (A0 : Option Addr) (at_ : Int) (arg0 : Nat → LT) (ln lc : Nat) (LA : Option Addr) (larg : Nat → LT) (who : Int) (w : World) (hnc : n0 ≤ c0') (hcm : c0' ≤ 9223372036854775807) (hR : RdL w (fun _ => True) A0 n0 arg0) (ok : OkBox n0 at_ arg0) (hma : ∀ i, i < n0 → (arg0 i).val.many ≤ 4194304)
    (hlc : ln ≤ lc) (hlm : lc ≤ 9223372036854775807) (hL : RdL w (fun _ => True) LA ln larg) (hml : ∀ i, i < ln → (larg i).val.many ≤ 4194304) :
    Calls Try.prog 7 #[.agg #[.slice A0 n0 c0', .int .i64 at_], .slice LA ln lc, .int .i64 who] w fun e w' => e = .returned (.bool true) ∧ Below w.heap.size w w' := by
  obtain ⟨i0, hi, jz0, jz1, jz2⟩ := info_parts infoL
  have HR := Lib.hid hR
  have HK := Lib.hid ok
  have HMA := Lib.hid hma
  have HLL := Lib.hid hL
  have HML := Lib.hid hml
  clear hR ok hma hL hml
  go_enter Try.func7, Try.ntmps7
  go_wp2_with fail
  refine (from_ok n0 c0' A0 at_ who arg0 (fun b => b < w.heap.size) _ hnc hcm (HR.out.frame (by simp) (fun b _ hlt => ⟨hlt, by simpa using Below.heap_alloc w _ b hlt⟩)) HK.out HMA.out).mono ?_
  rintro e w1 ⟨v1, rfl, hown1, hb1⟩
  have hBO : BO w w1 at_ who A0 n0 c0' arg0 v1 (fromL arg0 who n0) := by
    have hB : Below w.heap.size w w1 := ((Below.refl _ _).alloc (Nat.le_refl _) _).trans (hb1.mono (by simp))
    have hz : w.heap.size < w1.heap.size := by have := hb1.size; simp at this; omega
    obtain ⟨C1, hC1, hC2, hC3⟩ := hown1
    have hlt1 : ∀ k, v1.ownBlock = some k → w.heap.size + 1 ≤ k := fun k hk => by have := (hC1.lt k hk).1; simpa using this
    refine ⟨(hb1.cell (p := ⟨_, _, none⟩) (by simp)).trans (by simp [go_sem]), (hb1.cell (p := ⟨_, _, none⟩) (by simp)).trans (by simp [go_sem]), fun o => (hb1.frozen (p := ⟨_, _, none⟩) (by simp)).trans (by simp [go_sem]), hnc, hcm, ?_, HK.out, HMA.out, ?_, hz, hB⟩
    · exact HR.out.frame hB.size (fun b _ hlt => ⟨⟨by omega, fun e => by have := hlt1 b e.symm; omega⟩, hB.block b hlt⟩)
    · refine ⟨C1, own_mono hC1 (by simp), hC2, fun i hi => isL_mono (hC3 i hi) (fun b _ hb' => ⟨?_, hb'.2⟩)⟩
      have := hb'.1
      simp at this
      omega
  have HBO1 := Lib.hid hBO
  obtain ⟨C1, hO1, _, _⟩ := hown1
  obtain ⟨A1, c1, hv1, hnc1, hcm1, _⟩ := own_any hO1
  subst hv1
  clear hO1 hb1 hBO
  go_wp2_with fail
  refine (boxes_any _).mono ?_
  rintro e w2 ⟨rfl, hb2⟩
  have HBO2 := Lib.hid (HBO1.out.below hb2)
  clear hb2
  go_wp2_with fail
  go_loopw [7, 9, 10, 11, 12, 35] (fun o _ _ _ _ i wr => ∃ (q : Nat) (v : Value) (A : Option Addr) (n c : Nat) (arg : Nat → LT), q ≤ ln ∧ i = .int .i64 q ∧ v = o ∧ BO w wr at_ who A n c arg v (fromL arg who n)) (fun _ _ _ _ _ i _ => ln - (intOf i).toNat)
  case atStart => exact ⟨0, _, A0, n0, c0', arg0, Nat.zero_le _, rfl, rfl, HBO2.out⟩
  case round =>
    obtain ⟨q, v, A, n, c, arg, hq, rfl, rfl, hBO⟩ := hrel
    have HBO := Lib.hid hBO
    by_cases hlt : q < ln
    · obtain ⟨bl, off, rfl, hbl, _, D, hD⟩ := HLL.out (by omega)
      obtain ⟨hDq, hcell⟩ := hD q hlt
      have hDr := isL_frame (w' := wr) (S' := fun b => b < w.heap.size) hBO.hB.size (fun b _ hlt => ⟨hlt, hBO.hB.block b hlt⟩) hDq
      have hDr' := hDr
      obtain ⟨k', m', s', A', n', c', hCq, hval⟩ := hDr'
      obtain ⟨lq, hlq⟩ : ∃ x, larg q = x := ⟨_, rfl⟩
      have HMq := Lib.hid (HML.out q hlt)
      rw [hlq] at hCq hDr HMq hval
      obtain ⟨k, f, t, num, s, val⟩ := lq
      dsimp only at hCq HMq hval
      rw [hCq] at hcell hDr
      have hz := hBO.hz
      have c0 : wr.cell? ⟨bl, off + q * 9, none⟩ = some (.int .i64 k) := (hBO.hB.cell (p := ⟨bl, _, none⟩) hbl).trans (hcell 0 _ rfl)
      have c1 : wr.cell? ⟨bl, off + q * 9 + 1, none⟩ = some (.int .i64 f) := (hBO.hB.cell (p := ⟨bl, _, none⟩) hbl).trans (hcell 1 _ rfl)
      have c2 : wr.cell? ⟨bl, off + q * 9 + 2, none⟩ = some (.int .i64 t) := (hBO.hB.cell (p := ⟨bl, _, none⟩) hbl).trans (hcell 2 _ rfl)
      have c3 : wr.cell? ⟨bl, off + q * 9 + 3, none⟩ = some (.int .i64 num) := (hBO.hB.cell (p := ⟨bl, _, none⟩) hbl).trans (hcell 3 _ rfl)
      have c4 : wr.cell? ⟨bl, off + q * 9 + 4, none⟩ = some (.string s) := (hBO.hB.cell (p := ⟨bl, _, none⟩) hbl).trans (hcell 4 _ rfl)
      have c5 : wr.cell? ⟨bl, off + q * 9 + 5, none⟩ = some (.int .i64 k') := (hBO.hB.cell (p := ⟨bl, _, none⟩) hbl).trans (hcell 5 _ rfl)
      have c6 : wr.cell? ⟨bl, off + q * 9 + 6, none⟩ = some (.int .i64 m') := (hBO.hB.cell (p := ⟨bl, _, none⟩) hbl).trans (hcell 6 _ rfl)
      have c7 : wr.cell? ⟨bl, off + q * 9 + 7, none⟩ = some (.string s') := (hBO.hB.cell (p := ⟨bl, _, none⟩) hbl).trans (hcell 7 _ rfl)
      have c8 : wr.cell? ⟨bl, off + q * 9 + 8, none⟩ = some (.slice A' n' c') := (hBO.hB.cell (p := ⟨bl, _, none⟩) hbl).trans (hcell 8 _ rfl)
      have HV := Lib.hid hval
      have HDR := Lib.hid hDr
      obtain ⟨Cw, hOw, _, _⟩ := hBO.was
      obtain ⟨Av, cv, hvv, hncv, hcmv, _⟩ := own_any hOw
      subst hvv
      clear hDr hD hDq hcell hCq hlq hval hBO hOw
      by_cases h20 : 20 ≤ q
      · have e20 : decide ((20 : Int) ≤ (q : Int)) = true := by simp; omega
        have HBOx := Lib.hid (HBO.out.below ((Below.refl _ _).alloc (Nat.le_refl _) (.cells #[.int .i64 k, .int .i64 f, .int .i64 t, .int .i64 num, .string s, .int .i64 k', .int .i64 m', .string s', .slice A' n' c'] 45)))
        have hBO := HBOx.out
        have hc0 := hBO.c0
        have hc1 := hBO.c1
        clear hBO
        go_wp2_with fail
        refine (from_ok n c A at_ who arg _ _ HBOx.out.hnc HBOx.out.hcm HBOx.out.rd HBOx.out.ok HBOx.out.many).mono ?_
        rintro e w5 ⟨v5, rfl, hown5, hb5⟩
        have HBO5 := Lib.hid (HBOx.out.below hb5)
        have HO5 := Lib.hid hown5
        obtain ⟨C5, hO5, _, _⟩ := hown5
        obtain ⟨A5, c5, hv5, hnc5, hcm5, _⟩ := own_any hO5
        subst hv5
        clear hO5 hb5 hc0 hc1
        go_wp2_with fail
        refine (sameLs_any _ _ _ _ _ _ (fun i => (fromL arg who n).getD i noLetter) (fun i => (fromL arg who n).getD i noLetter) (fun _ => True) (fun _ => True) _ (by omega) (by omega) HO5.out.rdL HBO5.out.was.rdL).mono ?_
        rintro e w6 ⟨rfl, hb6⟩
        rw [allTo_refl HO5.out.rdL]
        have HBO6 := Lib.hid (HBO5.out.below hb6)
        have hc0 := HBO6.out.c0
        have hc1 := HBO6.out.c1
        clear hb6
        go_wp2_with fail
        refine (boxCheck_ok n c A at_ arg _ _ (by have := HBO6.out.hnc; have := HBO6.out.hcm; omega) HBO6.out.rd HBO6.out.ok).mono ?_
        rintro e w7 ⟨rfl, hb7⟩
        have HB7 := Lib.hid (HBO6.out.below hb7).hB
        clear hb7 hc0 hc1
        go_wp2_with fail
        go_ret
        exact ⟨rfl, HB7.out⟩
      have e20 : decide ((20 : Int) ≤ (q : Int)) = false := by simp; omega
      go_wp2_with fail
      refine (flat_any val _ (fun b => b < w.heap.size) _ (isV_below HV.out ((Below.refl _ _).alloc (Nat.le_refl _) _)) HMq.out).mono ?_
      rintro e w1 ⟨rfl, hb1⟩
      have x0 : w1.cell? ⟨wr.heap.size, 0, none⟩ = some (.int .i64 k) := (hb1.cell (p := ⟨_, _, none⟩) (by simp)).trans (by simp [go_sem])
      have x1 : w1.cell? ⟨wr.heap.size, 1, none⟩ = some (.int .i64 f) := (hb1.cell (p := ⟨_, _, none⟩) (by simp)).trans (by simp [go_sem])
      have x2 : w1.cell? ⟨wr.heap.size, 2, none⟩ = some (.int .i64 t) := (hb1.cell (p := ⟨_, _, none⟩) (by simp)).trans (by simp [go_sem])
      have x3 : w1.cell? ⟨wr.heap.size, 3, none⟩ = some (.int .i64 num) := (hb1.cell (p := ⟨_, _, none⟩) (by simp)).trans (by simp [go_sem])
      have x4 : w1.cell? ⟨wr.heap.size, 4, none⟩ = some (.string s) := (hb1.cell (p := ⟨_, _, none⟩) (by simp)).trans (by simp [go_sem])
      have x5 : w1.cell? ⟨wr.heap.size, 5, none⟩ = some (.int .i64 k') := (hb1.cell (p := ⟨_, _, none⟩) (by simp)).trans (by simp [go_sem])
      have x6 : w1.cell? ⟨wr.heap.size, 6, none⟩ = some (.int .i64 m') := (hb1.cell (p := ⟨_, _, none⟩) (by simp)).trans (by simp [go_sem])
      have x7 : w1.cell? ⟨wr.heap.size, 7, none⟩ = some (.string s') := (hb1.cell (p := ⟨_, _, none⟩) (by simp)).trans (by simp [go_sem])
      have x8 : w1.cell? ⟨wr.heap.size, 8, none⟩ = some (.slice A' n' c') := (hb1.cell (p := ⟨_, _, none⟩) (by simp)).trans (by simp [go_sem])
      have HBOx := Lib.hid (HBO.out.below (((Below.refl _ _).alloc (Nat.le_refl _) (.cells #[.int .i64 k, .int .i64 f, .int .i64 t, .int .i64 num, .string s, .int .i64 k', .int .i64 m', .string s', .slice A' n' c'] 45)).trans (hb1.mono (by simp))))
      have hzx : wr.heap.size < w1.heap.size := by have := hb1.size; simp at this; omega
      have HDR1 := Lib.hid (isL_below HDR.out (((Below.refl _ _).alloc (Nat.le_refl _) (.cells #[.int .i64 k, .int .i64 f, .int .i64 t, .int .i64 num, .string s, .int .i64 k', .int .i64 m', .string s', .slice A' n' c'] 45)).trans (hb1.mono (by simp))))
      clear hb1 c0 c1 c2 c3 c4 c5 c6 c7 c8
      cases hfl : flatB val with
      | false =>
        have HFL := Lib.hid hfl
        clear hfl x0 x1 x2 x3 x4 x5 x6 x7 x8
        have hBO := HBOx.out
        have hc0 := hBO.c0
        have hc1 := hBO.c1
        clear hBO
        go_wp2_with fail
        refine (from_ok n c A at_ who arg _ _ HBOx.out.hnc HBOx.out.hcm HBOx.out.rd HBOx.out.ok HBOx.out.many).mono ?_
        rintro e w5 ⟨v5, rfl, hown5, hb5⟩
        have HBO5 := Lib.hid (HBOx.out.below hb5)
        have HO5 := Lib.hid hown5
        obtain ⟨C5, hO5, _, _⟩ := hown5
        obtain ⟨A5, c5, hv5, hnc5, hcm5, _⟩ := own_any hO5
        subst hv5
        clear hO5 hb5 hc0 hc1
        go_wp2_with fail
        refine (sameLs_any _ _ _ _ _ _ (fun i => (fromL arg who n).getD i noLetter) (fun i => (fromL arg who n).getD i noLetter) (fun _ => True) (fun _ => True) _ (by omega) (by omega) HO5.out.rdL HBO5.out.was.rdL).mono ?_
        rintro e w6 ⟨rfl, hb6⟩
        rw [allTo_refl HO5.out.rdL]
        have HBO6 := Lib.hid (HBO5.out.below hb6)
        have hc0 := HBO6.out.c0
        have hc1 := HBO6.out.c1
        clear hb6
        go_wp2_with fail
        refine (boxCheck_ok n c A at_ arg _ _ (by have := HBO6.out.hnc; have := HBO6.out.hcm; omega) HBO6.out.rd HBO6.out.ok).mono ?_
        rintro e w7 ⟨rfl, hb7⟩
        have HB7 := Lib.hid (HBO6.out.below hb7).hB
        clear hb7 hc0 hc1
        go_wp2_with fail
        go_ret
        exact ⟨rfl, HB7.out⟩
      | true =>
        clear hfl
        have b0 := HBOx.out.c0
        have b1 := HBOx.out.c1
        go_wp2_with fail
        refine (put_any n c A at_ arg _ ⟨k, f, t, num, s, val⟩ _ _ _ HBOx.out.hnc HBOx.out.hcm HBOx.out.rd HDR1.out HBOx.out.ok HBOx.out.many HMq.out).mono ?_
        rintro e w3 (⟨y, rfl, hy, hb2⟩ | ⟨hfit, h6, A3, c3, rfl, hnc3, hcm3, hR3, hb2⟩)
        · have hy0 : (y == 0) = false := by simpa using hy
          have HBO3 := Lib.hid (HBOx.out.below (hb2.trans ((Below.refl _ _).alloc hb2.size (.cells #[.slice none 0 0, .int .i64 0] 43))))
          clear hb2 x0 x1 x2 x3 x4 x5 x6 x7 x8 b0 b1 hy
          go_wp2_with fail
          go_roundw
          case rel => exact ⟨q + 1, _, A, n, c, arg, by omega, by go_num, rfl, HBO3.out⟩
          case measure => simp [intOf]; omega
        · have HBO3 := Lib.hid ((HBOx.out.put (HBOx.out.ok.snoc h6 hfit) HMq.out hnc3 hcm3 hR3 hb2).below ((Below.refl _ _).alloc (Nat.le_refl _) (.cells #[.slice A3 (n + 1) c3, .int .i64 at_] 43)))
          have HFP := Lib.hid (fromL_put arg who n ⟨k, f, t, num, s, val⟩)
          have HDR3 := Lib.hid (isL_below (isL_frame (w' := (w3.setCell ⟨w.heap.size, 0, none⟩ (.slice A3 (n + 1) c3)).setCell ⟨w.heap.size, 1, none⟩ (.int .i64 at_)) (S' := fun b => b < w.heap.size) (by have := hb2.size; simp; omega) (fun b hs hlt => ⟨hs, by
            have g1 : w3.grownBy ((w3.setCell ⟨w.heap.size, 0, none⟩ (.slice A3 (n + 1) c3)).setCell ⟨w.heap.size, 1, none⟩ (.int .i64 at_)) (some w.heap.size) := grown_set (grown_set (grown_self _ _) _) _
            have hz2 := hb2.size
            exact (g1.block b (by omega) (by simp; omega)).trans (hb2.block b hlt)⟩) HDR1.out) ((Below.refl _ _).alloc (Nat.le_refl _) (.cells #[.slice A3 (n + 1) c3, .int .i64 at_] 43)))
          have x0 := (hb2.cell (p := ⟨wr.heap.size, 0, none⟩) hzx).trans x0
          have x1 := (hb2.cell (p := ⟨wr.heap.size, 1, none⟩) hzx).trans x1
          have x2 := (hb2.cell (p := ⟨wr.heap.size, 2, none⟩) hzx).trans x2
          have x3 := (hb2.cell (p := ⟨wr.heap.size, 3, none⟩) hzx).trans x3
          have x4 := (hb2.cell (p := ⟨wr.heap.size, 4, none⟩) hzx).trans x4
          have x5 := (hb2.cell (p := ⟨wr.heap.size, 5, none⟩) hzx).trans x5
          have x6 := (hb2.cell (p := ⟨wr.heap.size, 6, none⟩) hzx).trans x6
          have x7 := (hb2.cell (p := ⟨wr.heap.size, 7, none⟩) hzx).trans x7
          have x8 := (hb2.cell (p := ⟨wr.heap.size, 8, none⟩) hzx).trans x8
          have b0 := (hb2.cell (p := ⟨w.heap.size, 0, none⟩) (show _ < _ by simp; omega)).trans b0
          have b1 := (hb2.cell (p := ⟨w.heap.size, 1, none⟩) (show _ < _ by simp; omega)).trans b1
          have bf : ∀ o, w3.frozen? ⟨w.heap.size, o, none⟩ = false := fun o => (hb2.frozen (p := ⟨_, _, none⟩) (show _ < _ by simp; omega)).trans (HBOx.out.f o)
          have hz3 : wr.heap.size < w3.heap.size := by have := hb2.size; omega
          have hz4 : w.heap.size < w3.heap.size := by omega
          have n1 : ¬ (w.heap.size = wr.heap.size) := by omega
          have n2 : ¬ (wr.heap.size = w.heap.size) := by omega
          obtain ⟨C4, hO4, hC4, hCv4⟩ := HBO3.out.was
          have HO4 := Lib.hid hO4
          have HC4 := Lib.hid hC4
          have HCv4 := Lib.hid hCv4
          have hfl4 := fromL_len arg who n
          have hn60 := HBOx.out.ok.1
          clear hb2 hR3 hO4 hC4 hCv4
          by_cases hfw : f = who
          · have e1 : (f == who) = true := by simpa using hfw
            clear hfw
            go_wp2_with (at_builtin; go_loud (refine wpList_append_own_at _ rfl _ _ 41 rfl (w.heap.size + 1) 45 i0 _ 9 104 Try.underlying41 hi jz0 jz1 jz2 rfl (by omega) (.slice Av (fromL arg who n).length cv) (fromL arg who n).length (flatC C4 (fromL arg who n).length) rfl (HO4.out.alloc _) ⟨w3.heap.size + 1, 0, none⟩ 1 1 [.int .i64 k, .int .i64 f, .int .i64 t, .int .i64 num, .string s, .int .i64 k', .int .i64 m', .string s', .slice A' n' c'] rfl rfl (cell_nine_at _ _ _ _ _ _ _ _ _ _ _ _ (by simp)) (isL_one HDR3.out) (by unfold maxLen; omega) (by omega) (by simp; omega) ?_; intro v5 w5 hown5 hgrow5 _ hat5; have HO5 := Lib.hid hown5; have HG5 := Lib.hid hgrow5; have HA5 := Lib.hid hat5; clear hown5 hgrow5 hat5))
            have g45 := grown_step (World.grownBy_alloc _ _ _) HG5.out (.inl rfl)
            refine ⟨⟨q + 1, v5, A3, n + 1, c3, (fun i => if i = n then (⟨k, f, t, num, s, val⟩ : LT) else arg i), by omega, by go_num, rfl, ?_⟩, by simp [intOf]; omega⟩
            have hb := HBO3.out.app (x := ⟨k, f, t, num, s, val⟩) HO5.out HC4.out HCv4.out HDR3.out g45 (by
              rcases HA5.out with h | h
              · exact .inl h
              · exact .inr ⟨_, h, by simp⟩)
            rw [show fromL arg who n ++ [(⟨k, f, t, num, s, val⟩ : LT)] = fromL (fun i => if i = n then (⟨k, f, t, num, s, val⟩ : LT) else arg i) who (n + 1) by rw [HFP.out, e1]; simp] at hb
            exact hb
          · have e1 : (f == who) = false := by simpa using hfw
            clear hfw
            go_wp2_with fail
            go_roundw
            case rel =>
              refine ⟨q + 1, _, A3, n + 1, c3, (fun i => if i = n then (⟨k, f, t, num, s, val⟩ : LT) else arg i), by omega, by go_num, rfl, ?_⟩
              rw [show fromL (fun i => if i = n then (⟨k, f, t, num, s, val⟩ : LT) else arg i) who (n + 1) = fromL arg who n by rw [HFP.out, e1]; simp]
              exact HBO3.out
            case measure => simp [intOf]; omega
    · clear hBO
      have hBO := HBO.out
      have hc0 := hBO.c0
      have hc1 := hBO.c1
      obtain ⟨Cw, hOw, _, _⟩ := hBO.was
      obtain ⟨Av, cv, hvv, hncv, hcmv, _⟩ := own_any hOw
      subst hvv
      clear hOw
      clear hBO
      go_wp2_with fail
      refine (from_ok n c A at_ who arg _ _ HBO.out.hnc HBO.out.hcm HBO.out.rd HBO.out.ok HBO.out.many).mono ?_
      rintro e w5 ⟨v5, rfl, hown5, hb5⟩
      have HBO5 := Lib.hid (HBO.out.below hb5)
      have HO5 := Lib.hid hown5
      obtain ⟨C5, hO5, _, _⟩ := hown5
      obtain ⟨A5, c5, hv5, hnc5, hcm5, _⟩ := own_any hO5
      subst hv5
      clear hO5 hb5 hc0 hc1
      go_wp2_with fail
      refine (sameLs_any _ _ _ _ _ _ (fun i => (fromL arg who n).getD i noLetter) (fun i => (fromL arg who n).getD i noLetter) (fun _ => True) (fun _ => True) _ (by omega) (by omega) HO5.out.rdL HBO5.out.was.rdL).mono ?_
      rintro e w6 ⟨rfl, hb6⟩
      rw [allTo_refl HO5.out.rdL]
      have HBO6 := Lib.hid (HBO5.out.below hb6)
      have hc0 := HBO6.out.c0
      have hc1 := HBO6.out.c1
      clear hb6
      go_wp2_with fail
      refine (boxCheck_ok n c A at_ arg _ _ (by have := HBO6.out.hnc; have := HBO6.out.hcm; omega) HBO6.out.rd HBO6.out.ok).mono ?_
      rintro e w7 ⟨rfl, hb7⟩
      have HB7 := Lib.hid (HBO6.out.below hb7).hB
      clear hb7 hc0 hc1
      go_wp2_with fail
      go_ret
      exact ⟨rfl, HB7.out⟩
set_option maxRecDepth 100000 in
set_option maxHeartbeats 1000000 in
theorem boxOrder_bad (n c : Nat) (A : Option Addr) (at_ : Int) (arg : Nat → LT) (ln lc : Nat) (LA : Option Addr) (who : Int) (w : World) (hnc : n ≤ c) (hcm : c ≤ 9223372036854775807) (hR : RdL w (fun _ => True) A n arg) (ok : ¬ OkBox n at_ arg) :
    Calls Try.prog 7 #[.agg #[.slice A n c, .int .i64 at_], .slice LA ln lc, .int .i64 who] w fun e w' => e = .returned (.bool true) ∧ Below w.heap.size w w' := by
  have HR := Lib.hid hR
  have HK := Lib.hid ok
  clear hR ok
  go_enter Try.func7, Try.ntmps7
  go_wp2_with fail
  refine (from_bad n c A at_ who arg (fun _ => True) _ hnc hcm (HR.out.below ((Below.refl _ _).alloc (Nat.le_refl _) _)) HK.out).mono ?_
  rintro e w1 ⟨x, hx, rfl, hb1⟩
  have hx0 : (x != 0) = true := by simpa using hx
  have HB1 := Lib.hid (((Below.refl w.heap.size w).alloc (Nat.le_refl _) _).trans (hb1.mono (by simp)))
  clear hb1
  go_wp2_with fail
  refine (boxes_any _).mono ?_
  rintro e w2 ⟨rfl, hb2⟩
  have HB2 := Lib.hid (HB1.out.trans (hb2.mono HB1.out.size))
  clear hb2
  go_wp2_with fail
  refine (boxes_any _).mono ?_
  rintro e w3 ⟨rfl, hb3⟩
  have HB3 := Lib.hid (HB2.out.trans (hb3.mono HB2.out.size))
  clear hb3
  go_wp2_with fail
  go_ret
  exact ⟨rfl, HB3.out⟩
theorem bulk_three {H : Type} {d0 d1 d2 : DataW H} (hk : Rows.uptoSmall H [d0, d1, d2] = true) : Rows.uptoBulk d0 ≤ 1048576 ∧ Rows.uptoBulk d1 ≤ 1048576 := by
  have h := of_decide_eq_true hk
  simp only [Rows.uptoBulkAll] at h
  omega
set_option maxRecDepth 100000 in
theorem boxOrder_walk {H : Type} {enc : TypeId × Value → H} (W : World) (base : Nat) (v0 v1 v2 : Value) {d0 d1 d2 : DataW H} {p0 p1 p2 : List MemPlace}
    (k0 : Value.okWide Try.prog W .any base 43 v0) (k1 : Value.okWide Try.prog W .any base 41 v1) (k2 : Value.okWide Try.prog W .any base 3 v2)
    (h0 : DataW.Trod enc Try.prog W 0 (fun _ => true) true 43 v0 d0 p0) (h1 : DataW.Trod enc Try.prog W 0 (fun _ => true) true 41 v1 d1 p1) (h2 : DataW.Trod enc Try.prog W 0 (fun _ => true) true 3 v2 d2 p2) (hk : Rows.uptoSmall H [d0, d1, d2] = true) :
    Calls Try.prog 7 #[v0, v1, v2] W fun e W' => e = .returned (.bool true) ∧ Below W.heap.size W W' := by
  obtain ⟨b0, b1⟩ := bulk_three hk
  obtain ⟨A, n, c, at_, arg, rfl, hnc, hcm, hA, hR, hm⟩ := open_box k0 h0
  obtain ⟨a0, l0, cp0, rfl⟩ := okWide_slice Try.underlying41 k1
  obtain ⟨fuel, hf⟩ := h1
  obtain ⟨LA, ln, lc, larg, e1, hlc, hlm, _, hL, hml⟩ := open_letters hf
  have hv : Value.slice a0 l0 cp0 = .slice LA ln lc := by simpa [Value.cells] using e1
  rw [hv]
  obtain ⟨a2, rfl, _, _, _⟩ := open_int Try.underlying3 k2 h2
  by_cases ok : OkBox n at_ arg
  · exact boxOrder_ok n c A at_ arg ln lc LA larg a2 W hnc hcm hR ok (fun i hi => by have := hm i hi; omega) hlc hlm hL (fun i hi => by have : (larg i).val.many ≤ Rows.uptoBulk d1 := hml i hi; omega)
  · exact boxOrder_bad n c A at_ arg ln lc LA a2 W hnc hcm hR ok
end Go.Proofs.Ytelpommocgmdjaa
