/- copies.Parcel: a parcel is copied whole. Node.Save, Node.row. Node.Parcel. The contract of slices.Concat over ints. What a turn leaves of those who have no turn; who goes on for sure is not passed over twice. References of a node are not above those that were given. What is known of each actor: Knows. Where the law NodeFair stands. The walk of the law NodeFair. -/
import Derived.Test.YtjjfglbcikaicaaGreatMJ
import Derived.Test.YtjjfglbcikaicaaGreatMF
import Derived.Test.YtjjfglbcikaicaaGreatME
import Derived.BigRegion
import Derived.Test.YtjjfglbcikaicaaGreatInts
import Derived.IntWalk
import Derived.Lib.AppendZeros
import Derived.Test.YtjjfglbcikaicaaGreatMI
import Derived.Deep.AppendLies
namespace Go.Proofs.YtjjfglbcikaicaaGreat
open Go.RowKit
set_option linter.unusedVariables false
set_option linter.unusedSimpArgs false
/-- a parcel as data -/
structure PclS where
  ref : Int
  nm : ByteArray
  st : Nat → VT
  box : List LT
  ticks : Int
  ws : List Int
  ls : List Int
/-- a parcel whose rows lie in blocks of S -/
def PclAt (w : World) (S : Nat → Prop) (p : PclS) (cs : List Value) : Prop :=
  ∃ A2 c2 A4 c4 v6 v7, cs = [.int .i64 p.ref, .string p.nm, .slice A2 2 c2, .slice none 0 0, .slice A4 p.box.length c4, .int .i64 p.ticks, v6, v7] ∧ 2 ≤ c2 ∧ c2 ≤ 9223372036854775807 ∧ p.box.length ≤ c4 ∧ c4 ≤ 9223372036854775807 ∧
    RdV w S A2 2 p.st ∧ RdL w S A4 p.box.length (nthL p.box) ∧ NumIn w S v6 p.ws ∧ NumIn w S v7 p.ls
theorem PclAt.fr {w w' : World} {S S' D : Nat → Prop} {p : PclS} {cs : List Value} (h : PclAt w S p cs) (hf : Fr D w w') (hS : ∀ k, S k → ¬ D k) (hS' : ∀ k, S k → S' k) : PclAt w' S' p cs := by
  obtain ⟨A2, c2, A4, c4, v6, v7, e, h1, h2, h3, h4, h5, h6, h7, h8⟩ := h
  exact ⟨A2, c2, A4, c4, v6, v7, e, h1, h2, h3, h4, h5.frame hf.size (fun b hb hlt => ⟨hS' b hb, hf.block b hlt (hS b hb)⟩), h6.frame hf.size (fun b hb hlt => ⟨hS' b hb, hf.block b hlt (hS b hb)⟩), h7.fr hf hS hS', h8.fr hf hS hS'⟩
/-- eight cells of block q -/
def CellsN (w : World) (q : Nat) (cs : List Value) : Prop := (∀ j u, cs[j]? = some u → w.cell? ⟨q, j, none⟩ = some u) ∧ (∀ o, w.frozen? ⟨q, o, none⟩ = false) ∧ q < w.heap.size
theorem CellsN.fr {w w' : World} {D : Nat → Prop} {q : Nat} {cs : List Value} (h : CellsN w q cs) (hf : Fr D w w') (hq : ¬ D q) : CellsN w' q cs :=
  ⟨fun j u hu => hf.cell (h.1 j u hu) hq, fun o => (hf.frozen h.2.2 hq).trans (h.2.1 o), Nat.lt_of_lt_of_le h.2.2 hf.size⟩
theorem cells8_of {w : World} {q : Nat} {c0 c1 c2 c3 c4 c5 c6 c7 : Value} (h0 : w.cell? ⟨q, 0, none⟩ = some c0) (h1 : w.cell? ⟨q, 1, none⟩ = some c1) (h2 : w.cell? ⟨q, 2, none⟩ = some c2) (h3 : w.cell? ⟨q, 3, none⟩ = some c3) (h4 : w.cell? ⟨q, 4, none⟩ = some c4) (h5 : w.cell? ⟨q, 5, none⟩ = some c5) (h6 : w.cell? ⟨q, 6, none⟩ = some c6) (h7 : w.cell? ⟨q, 7, none⟩ = some c7) (hf : ∀ o, w.frozen? ⟨q, o, none⟩ = false) : CellsN w q [c0, c1, c2, c3, c4, c5, c6, c7] := ⟨fun j u hu => by
  match j, hu with
  | 0, hu => injection hu with hu; subst hu; exact h0
  | 1, hu => injection hu with hu; subst hu; exact h1
  | 2, hu => injection hu with hu; subst hu; exact h2
  | 3, hu => injection hu with hu; subst hu; exact h3
  | 4, hu => injection hu with hu; subst hu; exact h4
  | 5, hu => injection hu with hu; subst hu; exact h5
  | 6, hu => injection hu with hu; subst hu; exact h6
  | 7, hu => injection hu with hu; subst hu; exact h7, hf, World.block_lt_of_cell? w _ h0⟩
theorem cellsN_new (w : World) (cs : List Value) (t : TypeId) : CellsN (w.alloc (.cells cs.toArray t)) w.heap.size cs := ⟨fun j u hu => by
  have h := cell_newL w cs t _ rfl j u hu
  rw [Addr.add_lit, Nat.zero_add] at h
  exact h, fun o => by simp [go_sem], by simp⟩
theorem numIn_rd {w : World} {B : Nat → Prop} {v : Value} {l : List Int} (h : NumIn w B v l) : ∃ A c, v = .slice A l.length c ∧ l.length ≤ c ∧ c ≤ 9223372036854775807 ∧ (A = none → l.length = 0) ∧ Rd w 1 (tmC (lst l)) A l.length := by
  obtain ⟨A, c, e, h1, h2, h3⟩ := h
  refine ⟨A, c, e, h1, h2, fun hA => ?_, fun h0 => ?_⟩
  · by_cases h0 : 0 < l.length
    · obtain ⟨b, off, e2, _⟩ := h3 h0
      rw [hA] at e2
      cases e2
    · omega
  obtain ⟨b, off, e2, hb, hc⟩ := h3 h0
  refine ⟨b, off, e2, World.block_lt_of_cell? w _ (hc 0 h0), fun k hk j u hu => ?_⟩
  have hj : j < 1 := (List.getElem?_eq_some_iff.1 hu).1
  obtain rfl : j = 0 := by omega
  have : u = .int .i64 (lst l k) := by simpa [tmC] using hu.symm
  subst this
  rw [Nat.mul_one, Nat.add_zero]
  exact hc k hk
theorem LRow.lower {w : World} {base base' n : Nat} {v : Value} {C : Nat → List Value} {arg : Nat → LT} (h : LRow w base v n C arg) (hb : base' ≤ base) : LRow w base' v n C arg :=
  ⟨own_mono h.row hb, h.len, fun i hi => isL_frame (Nat.le_refl _) (fun b hs _ => ⟨⟨by omega, hs.2⟩, rfl⟩) (h.each i hi)⟩
theorem LRow.fr2 {D : Nat → Prop} {w w' : World} {base n : Nat} {v : Value} {C : Nat → List Value} {arg : Nat → LT} (h : LRow w base v n C arg) (hf : Fr D w w') (hr : ∀ k, D k → k < base) : LRow w' base v n C arg := h.fr hf hr
theorem RdV.fr3 {D : Nat → Prop} {w w' : World} {B n : Nat} {A : Option Addr} {arg : Nat → VT} (h : RdV w (fun b => B ≤ b) A n arg) (hf : Fr D w w') (hD : ∀ k, D k → k < B) : RdV w' (fun b => B ≤ b) A n arg := h.frame hf.size (fun b hb hlt => ⟨hb, hf.block b hlt (fun hd => by have := hD b hd; have h9 : B ≤ b := hb; omega)⟩)
theorem RdV.lower {w : World} {B B' n : Nat} {A : Option Addr} {arg : Nat → VT} (h : RdV w (fun b => B ≤ b) A n arg) (hb : B' ≤ B) : RdV w (fun b => B' ≤ b) A n arg := h.frame (Nat.le_refl _) (fun b hs _ => ⟨by have h9 : B ≤ b := hs; show B' ≤ b; omega, rfl⟩)
theorem rd_new {w W W9 : World} {sz n : Nat} {g : Nat → List Value} {A : Option Addr} (h : Rd w sz g A n) (hb : Below w.heap.size w W) (hf : Fr (fun k => k = w.heap.size) W W9) : Rd W9 sz g A n := fun h0 => by
  obtain ⟨b, off, e, hlt, hc⟩ := h h0
  exact ⟨b, off, e, Nat.lt_of_lt_of_le hlt (Nat.le_trans hb.size hf.size), fun k hk j u hu => hf.cell ((hb.cell (p := ⟨b, _, none⟩) hlt).trans (hc k hk j u hu)) (by omega)⟩
def PclPost (p : PclS) (w : World) (v : Value → Value) (e : Ending) (w' : World) : Prop :=
  ∃ A2 c2 A4 c4 C A6 c6 A7 c7, e = .returned (v (.agg #[.int .i64 p.ref, .string p.nm, .slice A2 2 c2, .slice none 0 0, .slice A4 p.box.length c4, .int .i64 p.ticks, .slice A6 p.ws.length c6, .slice A7 p.ls.length c7])) ∧ 2 ≤ c2 ∧ c2 ≤ 9223372036854775807 ∧
    RdV w' (fun b => w.heap.size ≤ b) A2 2 p.st ∧ LRow w' w.heap.size (.slice A4 p.box.length c4) p.box.length C (nthL p.box) ∧ OwnI w' w.heap.size (.slice A6 p.ws.length c6) p.ws ∧ OwnI w' w.heap.size (.slice A7 p.ls.length c7) p.ls ∧ Below w.heap.size w w'
set_option maxRecDepth 100000 in
set_option maxHeartbeats 8000000 in
theorem pcopy_any (p : PclS) (cs : List Value) (S : Nat → Prop) (w : World) (H : PclAt w S p cs) (hb : p.box.length ≤ 60) (hm : ∀ i, i < p.box.length → (nthL p.box i).val.many ≤ 4194304) (hs : ∀ i, i < 2 → (p.st i).many ≤ 4194304) (hw : p.ws.length ≤ 1000000) (hl : p.ls.length ≤ 1000000) :
    Calls Tryz.prog 65 #[.agg cs.toArray] w (PclPost p w id) := by
  obtain ⟨A2, c2, A4, c4, v6, v7, rfl, h1, h2, h3, h4, h5, h6, h7, h8⟩ := H
  obtain ⟨A6, c6, rfl, i1, i2, hn6, R6⟩ := numIn_rd h7
  obtain ⟨A7, c7, rfl, i3, i4, hn7, R7⟩ := numIn_rd h8
  obtain ⟨W, hW⟩ : ∃ W, W = (w.alloc (.cells #[.int .i64 p.ref, .string p.nm, .slice A2 2 c2, .slice none 0 0, .slice A4 p.box.length c4, .int .i64 p.ticks, .slice A6 p.ws.length c6, .slice A7 p.ls.length c7] 82)).alloc (.cells #[.int .i64 0, .string ⟨#[]⟩, .slice none 0 0, .slice none 0 0, .slice none 0 0, .int .i64 0, .slice none 0 0, .slice none 0 0] 82) := ⟨_, rfl⟩
  have HF := Lib.hid (show Below w.heap.size w W by rw [hW]; exact ((Below.refl _ _).alloc (Nat.le_refl _) _).alloc (by simp) _)
  have HZ := Lib.hid (show CellsN W w.heap.size [.int .i64 p.ref, .string p.nm, .slice A2 2 c2, .slice none 0 0, .slice A4 p.box.length c4, .int .i64 p.ticks, .slice A6 p.ws.length c6, .slice A7 p.ls.length c7] by rw [hW]; exact (cellsN_new w _ _).fr (D := fun _ => False) ((Fr.refl _ _).alloc _) (fun h => h))
  have HY := Lib.hid (show CellsN W (w.heap.size + 1) [.int .i64 0, .string ⟨#[]⟩, .slice none 0 0, .slice none 0 0, .slice none 0 0, .int .i64 0, .slice none 0 0, .slice none 0 0] by rw [hW]; simpa using cellsN_new (w.alloc (.cells #[.int .i64 p.ref, .string p.nm, .slice A2 2 c2, .slice none 0 0, .slice A4 p.box.length c4, .int .i64 p.ticks, .slice A6 p.ws.length c6, .slice A7 p.ls.length c7] 82)) [.int .i64 0, .string ⟨#[]⟩, .slice none 0 0, .slice none 0 0, .slice none 0 0, .int .i64 0, .slice none 0 0, .slice none 0 0] 82)
  have hz : w.heap.size + 2 = W.heap.size := by rw [hW]; simp
  have HV := Lib.hid (h5.frame HF.out.size (fun b hb hlt => ⟨hb, HF.out.block b hlt⟩))
  have HL := Lib.hid (h6.frame HF.out.size (fun b hb hlt => ⟨hb, HF.out.block b hlt⟩))
  have H6 := Lib.hid R6
  have H7 := Lib.hid R7
  have HVD := Lib.hid (show RdV W.drew S A2 2 p.st from RdV.frame h5 HF.out.size (fun b hb hlt => ⟨hb, HF.out.block b hlt⟩))
  have HA6 := Lib.hid (show A6 = none → p.ws.length = 0 from hn6)
  have HA7 := Lib.hid (show A7 = none → p.ls.length = 0 from hn7)
  have HWW := Lib.hid hW
  have HM := Lib.hid hm
  have HS := Lib.hid hs
  have z0 := HZ.out.1 0 _ rfl
  have z1 := HZ.out.1 1 _ rfl
  have z2 := HZ.out.1 2 _ rfl
  have z3 := HZ.out.1 3 _ rfl
  have z4 := HZ.out.1 4 _ rfl
  have z5 := HZ.out.1 5 _ rfl
  have z6 := HZ.out.1 6 _ rfl
  have z7 := HZ.out.1 7 _ rfl
  have zf := HZ.out.2.1
  clear h5 h6 h7 h8 R6 R7 hW hm hs hn6 hn7
  go_enter Tryz.func65, Tryz.ntmps65
  go_wp2_with fail
  rw [← HWW.out]
  go_cut [] (fun wx => ∃ A2' c2' A4' c4' C4, CellsN wx w.heap.size [.int .i64 p.ref, .string p.nm, .slice A2' 2 c2', .slice none 0 0, .slice A4' p.box.length c4', .int .i64 p.ticks, .slice A6 p.ws.length c6, .slice A7 p.ls.length c7] ∧ CellsN wx (w.heap.size + 1) [.int .i64 0, .string ⟨#[]⟩, .slice none 0 0, .slice none 0 0, .slice none 0 0, .int .i64 0, .slice none 0 0, .slice none 0 0] ∧ Hid (2 ≤ c2' ∧ c2' ≤ 9223372036854775807 ∧ RdV wx (fun b => W.heap.size ≤ b) A2' 2 p.st) ∧ Hid (LRow wx W.heap.size (.slice A4' p.box.length c4') p.box.length C4 (nthL p.box)) ∧ Hid (Fr (fun k => k = w.heap.size) W wx))
  case first =>
    go_region_with (first
      | (go_at_call 97; refine (saved_any p.nm 2 c2 A2 p.st S _ (by omega) HVD.out HS.out).mono ?_; rintro e w1 ⟨A2', c2', rfl, q1, q2, q3, hb1⟩; have HB1 := Lib.hid (show Fr (fun _ => False) W w1 from Fr.of_below (below_drew' hb1)); have HQ := Lib.hid (And.intro q1 (And.intro q2 q3)); have HZ1 := Lib.hid (HZ.out.fr HB1.out (fun h => h)); have HY1 := Lib.hid (HY.out.fr HB1.out (fun h => h)); have x4 := HZ1.out.1 4 _ rfl; clear q1 q2 q3 hb1)
      | (go_at_call 55; refine (leach_any p.box.length c4 A4 (nthL p.box) S w1 (by omega) (HL.out.frame HB1.out.size (fun b hb hlt => ⟨hb, HB1.out.block b hlt (fun h => h)⟩)) HM.out).mono ?_; rintro e w2 ⟨v2, C2, rfl, hown2, hCl2, hCv2, hb2⟩; obtain ⟨A4', c4', hv2, _, _, _⟩ := own_any hown2; subst hv2; have HLR := Lib.hid (LRow.mk (arg := nthL p.box) hown2 hCl2 hCv2); have HB2 := Lib.hid (show Fr (fun _ => False) w1 w2 from Fr.of_below hb2); have HZ2 := Lib.hid (HZ1.out.fr HB2.out (fun h => h)); have HY2 := Lib.hid (HY1.out.fr HB2.out (fun h => h)); have u0 := HZ2.out.1 0 _ rfl; have u1 := HZ2.out.1 1 _ rfl; have u2 := HZ2.out.1 2 _ rfl; have u3 := HZ2.out.1 3 _ rfl; have u4 := HZ2.out.1 4 _ rfl; have u5 := HZ2.out.1 5 _ rfl; have u6 := HZ2.out.1 6 _ rfl; have u7 := HZ2.out.1 7 _ rfl; have uf := HZ2.out.2.1; clear hown2 hCl2 hCv2 hb2))
    all_goals
      go_wp2_with fail
      go_meet
      refine ⟨A2', c2', A4', c4', C2, cells8_of (by simp [go_sem, u0]) (by simp [go_sem, u1]) (by simp [go_sem, u2]) (by simp [go_sem, u3]) (by simp [go_sem, u4]) (by simp [go_sem, u5]) (by simp [go_sem, u6]) (by simp [go_sem, u7]) (fun o => by simp [go_sem, uf]), HY2.out.fr (D := fun k => k = w.heap.size) ?_ (by omega), Lib.hid ⟨HQ.out.1, HQ.out.2.1, ?_⟩, Lib.hid ?_, Lib.hid ?_⟩
      · iterate 4 (refine Fr.setAt ?_ _)
        exact Fr.refl _ _
      · refine RdV.fr3 (D := fun k => k = w.heap.size) HQ.out.2.2 ?_ (fun k hk => by omega)
        iterate 4 (refine Fr.setAt ?_ _)
        exact HB2.out.weak (fun _ h => h.elim)
      · refine LRow.fr (S := fun k => k = w.heap.size) (HLR.out.lower (base' := W.heap.size) HB1.out.size) ?_ (fun k hk => by omega)
        iterate 4 (refine Fr.setAt ?_ _)
        exact Fr.refl _ _
      · iterate 4 (refine Fr.setAt ?_ _)
        exact (HB1.out.trans' HB2.out).weak (fun _ h => h.elim)
  case rest =>
    obtain ⟨A2', c2', A4', c4', C4, HZc, HYc, HQ, HLR, HFC⟩ := hcut
    generalize wc = wc1 at *
    have HZC := Lib.hid HZc
    have HYC := Lib.hid HYc
    clear HZc HYc z0 z1 z2 z3 z4 z5 z6 z7 zf HZ HY HV HL HVD
    have z0 := HZC.out.1 0 _ rfl
    have z1 := HZC.out.1 1 _ rfl
    have z2 := HZC.out.1 2 _ rfl
    have z3 := HZC.out.1 3 _ rfl
    have z4 := HZC.out.1 4 _ rfl
    have z5 := HZC.out.1 5 _ rfl
    have z6 := HZC.out.1 6 _ rfl
    have z7 := HZC.out.1 7 _ rfl
    have zf := HZC.out.2.1
    have HR6 := Lib.hid (fun W9 (hf : Fr (fun k => k = w.heap.size) W W9) => show Rd W9 1 (tmC (lst p.ws)) A6 p.ws.length from rd_new H6.out HF.out hf)
    have HR7 := Lib.hid (fun W9 (hf : Fr (fun k => k = w.heap.size) W W9) => show Rd W9 1 (tmC (lst p.ls)) A7 p.ls.length from rd_new H7.out HF.out hf)
    go_wp2_with fail
    go_cut [] (fun wx => ∃ A6' c6' A7' c7', CellsN wx w.heap.size [.int .i64 p.ref, .string p.nm, .slice A2' 2 c2', .slice none 0 0, .slice A4' p.box.length c4', .int .i64 p.ticks, .slice A6' p.ws.length c6', .slice A7' p.ls.length c7'] ∧ CellsN wx (w.heap.size + 1) [.int .i64 0, .string ⟨#[]⟩, .slice none 0 0, .slice none 0 0, .slice none 0 0, .int .i64 0, .slice none 0 0, .slice none 0 0] ∧ Hid (OwnI wx W.heap.size (.slice A6' p.ws.length c6') p.ws) ∧ Hid (OwnI wx W.heap.size (.slice A7' p.ls.length c7') p.ls) ∧ Hid (Fr (fun k => k = w.heap.size) wc1 wx))
    case first =>
      go_region_with (first
        | (go_at_call_of 98 (Value.slice A6 p.ws.length c6); refine (cloneInt A6 p.ws.length c6 (tmC (lst p.ws)) _ (HR6.out _ HFC.out.drew) (tmC_len _) (tmC_one _) HA6.out (by omega)).mono ?_; rintro e w1 ⟨v1, rfl, hown1, hb1⟩; rw [flatC_lst] at hown1; have HO1 := Lib.hid (show OwnI w1 wc1.heap.size v1 p.ws from hown1); obtain ⟨A6', c6', hv1, _, _, _⟩ := own_any hown1; subst hv1; have HB1 := Lib.hid (show Fr (fun _ => False) wc1 w1 from Fr.of_below (below_drew' hb1)); have HZ1 := Lib.hid (HZC.out.fr HB1.out (fun h => h)); have HY1 := Lib.hid (HYC.out.fr HB1.out (fun h => h)); have x7 := HZ1.out.1 7 _ rfl; clear hown1 hb1)
        | (go_at_call_of 98 (Value.slice A7 p.ls.length c7); refine (cloneInt A7 p.ls.length c7 (tmC (lst p.ls)) _ (HR7.out _ (HFC.out.trans' (HB1.out.weak (fun _ h => h.elim)))) (tmC_len _) (tmC_one _) HA7.out (by omega)).mono ?_; rintro e w2 ⟨v2, rfl, hown2, hb2⟩; rw [flatC_lst] at hown2; have HO2 := Lib.hid (show OwnI w2 w1.heap.size v2 p.ls from hown2); obtain ⟨A7', c7', hv2, _, _, _⟩ := own_any hown2; subst hv2; have HB2 := Lib.hid (show Fr (fun _ => False) w1 w2 from Fr.of_below hb2); have HZ2 := Lib.hid (HZ1.out.fr HB2.out (fun h => h)); have HY2 := Lib.hid (HY1.out.fr HB2.out (fun h => h)); have u0 := HZ2.out.1 0 _ rfl; have u1 := HZ2.out.1 1 _ rfl; have u2 := HZ2.out.1 2 _ rfl; have u3 := HZ2.out.1 3 _ rfl; have u4 := HZ2.out.1 4 _ rfl; have u5 := HZ2.out.1 5 _ rfl; have u6 := HZ2.out.1 6 _ rfl; have u7 := HZ2.out.1 7 _ rfl; have uf := HZ2.out.2.1; clear hown2 hb2))
      all_goals
        go_wp2_with fail
        go_meet
        refine ⟨A6', c6', A7', c7', cells8_of (by simp [go_sem, u0]) (by simp [go_sem, u1]) (by simp [go_sem, u2]) (by simp [go_sem, u3]) (by simp [go_sem, u4]) (by simp [go_sem, u5]) (by simp [go_sem, u6]) (by simp [go_sem, u7]) (fun o => by simp [go_sem, uf]), HY2.out.fr (D := fun k => k = w.heap.size) ?_ (by omega), Lib.hid ?_, Lib.hid ?_, Lib.hid ?_⟩
        · iterate 2 (refine Fr.setAt ?_ _)
          exact Fr.refl _ _
        · refine OwnI.fr (S := fun k => k = w.heap.size) (OwnI.mono (base' := W.heap.size) HO1.out (by have := HFC.out.size; omega)) ?_ (fun k hk hq => by have := (HO1.out.blk k hk).1; have := HFC.out.size; omega)
          iterate 2 (refine Fr.setAt ?_ _)
          exact HB2.out.weak (fun _ h => h.elim)
        · refine OwnI.fr (S := fun k => k = w.heap.size) (OwnI.mono (base' := W.heap.size) HO2.out (by have := HFC.out.size; have := HB1.out.size; omega)) ?_ (fun k hk hq => by have := (HO2.out.blk k hk).1; have := HFC.out.size; have := HB1.out.size; omega)
          iterate 2 (refine Fr.setAt ?_ _)
          exact Fr.refl _ _
        · iterate 2 (refine Fr.setAt ?_ _)
          exact (HB1.out.trans' HB2.out).weak (fun _ h => h.elim)
    case rest =>
      obtain ⟨A6', c6', A7', c7', HZd, HYd, HO6, HO7, HFD⟩ := hcut
      have HZD := Lib.hid HZd
      have HYD := Lib.hid HYd
      clear HZd HYd z0 z1 z2 z3 z4 z5 z6 z7 zf HZC HYC HR6 HR7
      have z0 := HZD.out.1 0 _ rfl
      have z1 := HZD.out.1 1 _ rfl
      have z2 := HZD.out.1 2 _ rfl
      have z3 := HZD.out.1 3 _ rfl
      have z4 := HZD.out.1 4 _ rfl
      have z5 := HZD.out.1 5 _ rfl
      have z6 := HZD.out.1 6 _ rfl
      have z7 := HZD.out.1 7 _ rfl
      have y0 := HYD.out.1 0 _ rfl
      have y1 := HYD.out.1 1 _ rfl
      have y2 := HYD.out.1 2 _ rfl
      have y3 := HYD.out.1 3 _ rfl
      have y4 := HYD.out.1 4 _ rfl
      have y5 := HYD.out.1 5 _ rfl
      have y6 := HYD.out.1 6 _ rfl
      have y7 := HYD.out.1 7 _ rfl
      have yf := HYD.out.2.1
      go_wp2_with fail
      refine bodyPost_ret (v := .agg #[.int .i64 p.ref, .string p.nm, .slice A2' 2 c2', .slice none 0 0, .slice A4' p.box.length c4', .int .i64 p.ticks, .slice A6' p.ws.length c6', .slice A7' p.ls.length c7']) (by simp [results, Tryz.results65, go_sem, y0, y1, y2, y3, y4, y5, y6, y7]) rfl ⟨A2', c2', A4', c4', C4, A6', c6', A7', c7', rfl, HQ.out.1, HQ.out.2.1, ?_, ?_, ?_, ?_, ?_⟩
      · refine RdV.lower (B := W.heap.size) (RdV.fr3 (D := fun k => k = w.heap.size ∨ k = w.heap.size + 1) HQ.out.2.2 (Fr.trans' (w1 := wc) (HFD.out.weak (fun _ h => .inl h)) (Fr.weak (S := fun k => k = w.heap.size + 1) ?_ (fun _ h => .inr h))) (fun k hk => by omega)) (by omega)
        iterate 8 (refine Fr.setAt ?_ _)
        exact Fr.refl _ _
      · refine LRow.lower (base := W.heap.size) (LRow.fr (S := fun k => k = w.heap.size ∨ k = w.heap.size + 1) HLR.out (Fr.trans' (w1 := wc) (HFD.out.weak (fun _ h => .inl h)) (Fr.weak (S := fun k => k = w.heap.size + 1) ?_ (fun _ h => .inr h))) (fun k hk => by omega)) (by omega)
        iterate 8 (refine Fr.setAt ?_ _)
        exact Fr.refl _ _
      · refine OwnI.fr (S := fun k => k = w.heap.size + 1) (OwnI.mono (base' := w.heap.size) HO6.out (by omega)) ?_ (fun k hk hq => by have := (HO6.out.blk k hk).1; omega)
        iterate 8 (refine Fr.setAt ?_ _)
        exact Fr.refl _ _
      · refine OwnI.fr (S := fun k => k = w.heap.size + 1) (OwnI.mono (base' := w.heap.size) HO7.out (by omega)) ?_ (fun k hk hq => by have := (HO7.out.blk k hk).1; omega)
        iterate 8 (refine Fr.setAt ?_ _)
        exact Fr.refl _ _
      · iterate 8 (refine below_set ?_ (by omega))
        have h1 : Fr (fun k => w.heap.size ≤ k) w W := Fr.of_below HF.out
        exact (h1.trans' ((HFC.out.trans' HFD.out).weak (fun k hk => by omega))).below (fun k hk => hk) (Nat.le_refl _)
end Go.Proofs.YtjjfglbcikaicaaGreat
namespace Go.Proofs.YtjjfglbcikaicaaGreat
open Go.RowKit Go.Maps
set_option linter.unusedVariables false
set_option linter.unusedSimpArgs false
theorem row1_cl : Li.EqRow 96 := fun a A B n m c d ref b w hb hc => by
  go_enter Tryz.func96, Tryz.ntmps96
  go_wp2_with fail
  go_ret
  exact ⟨rfl, (Below.refl _ _).alloc (Nat.le_refl _) _⟩
theorem row1_enters : Enters Tryz.prog 96 := fun _ _ => by kernel_rfl
/-- the row of one; an empty one, if there is none -/
def rowD (rows : List Li.LR) (ref : Int) : Li.LR := (rowL rows ref).getD dRow
theorem numIn_sl {w : World} {v : Value} {l : List Int} (h : Li.Sl w v l) : NumIn w (fun b => b < w.heap.size) v l := by
  obtain ⟨A, c, e, h1, h2, h3, h4⟩ := h
  refine ⟨A, c, e, h1, h2, fun h0 => ?_⟩
  obtain ⟨b, off, e2, hb, hc⟩ := h4 h0
  refine ⟨b, off, e2, hb, fun j hj => ?_⟩
  have := hc j hj 0 _ rfl
  rw [Nat.mul_one, Nat.add_zero] at this
  exact this
def RowPost (B : Nat → Prop) (r : Li.LR) (w : World) (e : Ending) (w' : World) : Prop := ∃ v1 v2, e = .returned (.agg #[.int .i64 r.ref, v1, v2]) ∧ NumIn w' B v1 r.ws ∧ NumIn w' B v2 r.ls ∧ Below w.heap.size w w'
theorem numIn_nil' (w : World) (B : Nat → Prop) : NumIn w B (.slice none 0 0) [] := ⟨none, 0, rfl, Nat.le_refl _, by omega, fun h => by simp at h⟩
set_option maxRecDepth 100000 in
set_option maxHeartbeats 4000000 in
theorem row_any {w0 w : World} {X M : Nat → Prop} {base T p : Nat} {P : Int → Nat} {N : NdS} (h : NodeAt w0 X M base T p P N) (hf0 : Fr (fun _ => False) w0 w) (ref : Int) :
    Calls Tryz.prog 64 #[.pointer (some ⟨p, 0, none⟩), .int .i64 ref] w (RowPost (fun b => b < w0.heap.size) (rowD N.rows ref) w) := by
  have hok := h.ok.rows.ok
  obtain ⟨_, _, _, mb, hb, MA, ob, sb, h4, _⟩ := h
  obtain ⟨v4, c40, hr⟩ := h4.c4
  have c4 := hf0.cell c40 (fun h => h)
  have hplt := World.block_lt_of_cell? w _ c4
  obtain ⟨A, c, vw, vl, rfl, k1, k2, hR0⟩ := hr.form
  have HR0 := Lib.hid hR0
  have hR := hR0.below (hf0.below (fun _ h => h.elim) (Nat.le_refl _))
  have HF0 := Lib.hid hf0
  have HR := Lib.hid hR
  have h100 := hok.1
  obtain ⟨W, hW⟩ : ∃ W, W = (w.alloc (.cells #[.int .i64 ref] 3)).alloc (.cells #[.int .i64 0, .slice none 0 0, .slice none 0 0] 132) := ⟨_, rfl⟩
  have hbz : Below w.heap.size w W := by rw [hW]; exact ((Below.refl _ _).alloc (Nat.le_refl _) _).alloc (by simp) _
  have HB := Lib.hid hbz
  have HZ := Lib.hid (show CellsN W (w.heap.size + 1) [.int .i64 0, .slice none 0 0, .slice none 0 0] by rw [hW]; simpa using cellsN_new (w.alloc (.cells #[.int .i64 ref] 3)) [.int .i64 0, .slice none 0 0, .slice none 0 0] 132)
  have HIX := Lib.hid (Li.ix_row 96 row1_enters row1_cl A N.rows.length c (rowF N.rows) vw vl ref w.heap.size W (by omega) (hR.below hbz) (by rw [hW]; simp; omega) (by rw [hW]; simp [go_sem]))
  have HWW := Lib.hid hW
  clear hr hR hR0 hbz h4 hW hf0 c40
  by_cases hi : ∃ i, Li.OkIx (rowF N.rows) N.rows.length ref i
  · obtain ⟨i, hi⟩ := hi
    have HI := Lib.hid hi.ix
    have HRD := Lib.hid (show rowD N.rows ref = rowF N.rows i by unfold rowD; rw [okIx_iff hok hi]; rfl)
    have hlt := hi.2.1
    clear hi hok
    go_enter Tryz.func64, Tryz.ntmps64
    go_wp2_with fail
    rw [← HWW.out]
    refine HIX.out.mono ?_
    rintro e w2 ⟨rfl, hb2⟩
    rw [HI.out]
    have HB2 := Lib.hid (HB.out.trans (hb2.mono HB.out.size))
    have HZ2 := Lib.hid (HZ.out.fr (Fr.of_below (S := fun _ => False) hb2) (fun h => h))
    have d4 := (HB2.out.cell (p := ⟨p, 4, none⟩) hplt).trans c4
    obtain ⟨b, off, rfl, hb0, hc⟩ := (HR.out.below HB2.out).row (by omega)
    have r0 := hc i hlt 0 _ rfl
    have r1 := hc i hlt 1 _ rfl
    have r2 := hc i hlt 2 _ rfl
    rw [Nat.add_zero] at r0
    obtain ⟨⟨B1, e1, hv1, s1⟩, ⟨B2, e2, hv2, s2⟩⟩ := HR0.out.each i hlt
    rw [hv1] at r1
    rw [hv2] at r2
    have HS := Lib.hid (show NumIn w0 (fun b => b < w0.heap.size) (.slice B1 (rowF N.rows i).ws.length e1) (rowF N.rows i).ws ∧ NumIn w0 (fun b => b < w0.heap.size) (.slice B2 (rowF N.rows i).ls.length e2) (rowF N.rows i).ls from ⟨numIn_sl ⟨B1, e1, rfl, s1⟩, numIn_sl ⟨B2, e2, rfl, s2⟩⟩)
    clear hv1 hv2 s1 s2
    have z0 := HZ2.out.1 0 _ rfl
    have z1 := HZ2.out.1 1 _ rfl
    have z2 := HZ2.out.1 2 _ rfl
    have zf := HZ2.out.2.1
    have i1 : (0 : Int) ≤ (i : Int) := by omega
    have i2 : (i : Int) < (N.rows.length : Int) := by omega
    have i3 : ¬ (i : Int) < 0 := by omega
    clear hb2 hc c4
    go_wp2_with fail
    refine bodyPost_ret (v := .agg #[.int .i64 (rowF N.rows i).ref, .slice B1 (rowF N.rows i).ws.length e1, .slice B2 (rowF N.rows i).ls.length e2]) (by simp [results, Tryz.results64, go_sem, z0, z1, z2]) rfl ?_
    rw [HRD.out]
    have hfin : Fr (fun k => w.heap.size ≤ k) w (((w2.setCell ⟨w.heap.size + 1, 0, none⟩ (.int .i64 (rowF N.rows i).ref)).setCell ⟨w.heap.size + 1, 1, none⟩ (.slice B1 (rowF N.rows i).ws.length e1)).setCell ⟨w.heap.size + 1, 2, none⟩ (.slice B2 (rowF N.rows i).ls.length e2)) := (((Fr.of_below (S := fun k => w.heap.size ≤ k) HB2.out).set (Or.inl (by show w.heap.size ≤ w.heap.size + 1; omega)) _).set (Or.inl (by show w.heap.size ≤ w.heap.size + 1; omega)) _).set (Or.inl (by show w.heap.size ≤ w.heap.size + 1; omega)) _
    have hz0 := HF0.out.size
    have hf9 : Fr (fun k => w.heap.size ≤ k) w0 _ := (HF0.out.weak (fun _ h => h.elim)).trans' hfin
    exact ⟨_, _, rfl, HS.out.1.fr hf9 (fun b hb hD => by have h1 : b < w0.heap.size := hb; have h2 : w.heap.size ≤ b := hD; omega) (fun _ h => h), HS.out.2.fr hf9 (fun b hb hD => by have h1 : b < w0.heap.size := hb; have h2 : w.heap.size ≤ b := hD; omega) (fun _ h => h), hfin.below (fun k hk => hk) (Nat.le_refl _)⟩
  · have HI := Lib.hid (Li.ix_none hok hi)
    have HRD := Lib.hid (show rowD N.rows ref = dRow by unfold rowD; rw [rowL_none hok hi]; rfl)
    clear hi hok
    go_enter Tryz.func64, Tryz.ntmps64
    go_wp2_with fail
    rw [← HWW.out]
    refine HIX.out.mono ?_
    rintro e w2 ⟨rfl, hb2⟩
    rw [HI.out]
    have HB2 := Lib.hid (HB.out.trans (hb2.mono HB.out.size))
    have HZ2 := Lib.hid (HZ.out.fr (Fr.of_below (S := fun _ => False) hb2) (fun h => h))
    have z0 := HZ2.out.1 0 _ rfl
    have z1 := HZ2.out.1 1 _ rfl
    have z2 := HZ2.out.1 2 _ rfl
    have zf := HZ2.out.2.1
    clear hb2
    go_wp2_with fail
    refine bodyPost_ret (v := .agg #[.int .i64 0, .slice none 0 0, .slice none 0 0]) (by simp [results, Tryz.results64, go_sem, z0, z1, z2]) rfl ?_
    rw [HRD.out]
    refine ⟨_, _, rfl, numIn_nil' _ _, numIn_nil' _ _, ?_⟩
    iterate 3 (refine below_set ?_ (by omega))
    exact HB2.out
set_option maxRecDepth 100000 in
set_option maxHeartbeats 4000000 in
theorem nsave_any {w : World} {X M : Nat → Prop} {base T p : Nat} {P : Int → Nat} {N : NdS} (h : NodeAt w X M base T p P N) {ref : Int} {a : ActS} (ha : N.find ref = some a) (hw : a.waits = true) :
    Calls Tryz.prog 63 #[.pointer (some ⟨p, 0, none⟩), .int .i64 ref] w (SavedPost a.d.nm 2 (topV a.d.r) w (fun v => .tuple #[v, .int .i64 0])) := by
  have hplt := h.p_lt
  obtain ⟨hm, hr⟩ := find_some ha
  have hok := h.ok.act a hm
  obtain ⟨pa, b, rb, kb, ib, MA, mb, hpa, c3, hA, hMA, hlk, -⟩ := h.act ha
  have hlook := fun (W : World) (hf : Fr (fun _ => False) w W) => hlk W (hf.weak (fun _ h => h.elim))
  have HLK := Lib.hid hlook
  have a0 := hA.a0
  have a4 := hA.a4
  rw [hw] at a4
  have hpl := hA.lt.1
  obtain ⟨W, hW⟩ : ∃ W, W = w.alloc (.cells #[.string ⟨#[]⟩, .slice none 0 0, .slice none 0 0] 80) := ⟨_, rfl⟩
  have hfW : Fr (fun _ => False) w W := by rw [hW]; exact (Fr.refl _ _).alloc _
  have hdia : DiaAt W X base T b rb ib a.d := hA.dia.fr hfW (fun _ h => h.elim) (fun k hk => .inl hk) (fun _ h => h.elim) (Nat.le_refl _) (fun h => h) (fun h => h) (fun _ _ h => h)
  have HS := Lib.hid (dsave_any X base T b rb ib a.d W hdia (hok.waits hw))
  have HZ := Lib.hid (show CellsN W w.heap.size [.string ⟨#[]⟩, .slice none 0 0, .slice none 0 0] by rw [hW]; exact cellsN_new w _ _)
  have HF := Lib.hid hfW
  have HWW := Lib.hid hW
  have d0 := hfW.cell a0 (fun h => h)
  have d3 := hfW.cell c3 (fun h => h)
  have d4 := hfW.cell a4 (fun h => h)
  have hl1 := hlook (w.alloc (.cells #[.string ⟨#[]⟩, .slice none 0 0, .slice none 0 0] 80)) ((Fr.refl _ _).alloc _)
  have hzW := hfW.size
  clear h ha hok hA hMA hlk hdia hW hfW hpa hm hlook
  have HD := Lib.hid (And.intro d0 (And.intro d3 d4))
  clear d0 d3 d4
  go_enter Tryz.func63, Tryz.ntmps63
  go_wp2_with fail
  rw [← HWW.out]
  refine HS.out.mono ?_
  rintro e w1 ⟨A', c', rfl, q1, q2, q3, hb1⟩
  have HQ := Lib.hid q3
  have HB := Lib.hid hb1
  have HZ1 := Lib.hid (HZ.out.fr (Fr.of_below (S := fun _ => False) hb1) (fun h => h))
  have z0 := HZ1.out.1 0 _ rfl
  have z1 := HZ1.out.1 1 _ rfl
  have z2 := HZ1.out.1 2 _ rfl
  have zf := HZ1.out.2.1
  clear q3 hb1 a0 a4 c3 hl1
  go_wp2_with fail
  refine bodyPost_ret (v := .tuple #[.agg #[.string a.d.nm, .slice A' 2 c', .slice none 0 0], .int .i64 0]) (by simp [results, Tryz.results63, go_sem, z0, z1, z2]) rfl ⟨A', c', rfl, q1, q2, ?_, ?_⟩
  · refine RdV.lower (B := W.heap.size) (RdV.fr3 (D := fun k => k = w.heap.size) HQ.out ?_ (fun k hk => by have := HZ.out.2.2; omega)) hzW
    iterate 3 (refine Fr.setAt ?_ _)
    exact Fr.refl _ _
  · iterate 3 (refine below_set ?_ (Nat.le_refl _))
    exact (HF.out.below (fun _ h => h.elim) (Nat.le_refl _)).trans (HB.out.mono hzW)
def SaveNo (x : Int) (w : World) (e : Ending) (w' : World) : Prop := e = .returned (.tuple #[.agg #[.string ⟨#[]⟩, .slice none 0 0, .slice none 0 0], .int .i64 x]) ∧ Below w.heap.size w w'
set_option maxRecDepth 100000 in
set_option maxHeartbeats 4000000 in
theorem nsave_no {w : World} {X M : Nat → Prop} {base T p : Nat} {P : Int → Nat} {N : NdS} (h : NodeAt w X M base T p P N) {ref : Int} {a : ActS} (ha : N.find ref = some a) (hw : a.waits = false) :
    Calls Tryz.prog 63 #[.pointer (some ⟨p, 0, none⟩), .int .i64 ref] w (SaveNo 9 w) := by
  have hplt := h.p_lt
  obtain ⟨pa, b, rb, kb, ib, MA, mb, hpa, c3, hA, hMA, hlk, -⟩ := h.act ha
  have a4 := hA.a4
  rw [hw] at a4
  have hpl := hA.lt.1
  have hl1 := hlk (w.alloc (.cells #[.string ⟨#[]⟩, .slice none 0 0, .slice none 0 0] 80)) ((Fr.refl _ _).alloc _)
  clear h ha hA hMA hlk hpa hw
  go_enter Tryz.func63, Tryz.ntmps63
  go_wp2_with fail
  refine bodyPost_ret (v := .tuple #[.agg #[.string ⟨#[]⟩, .slice none 0 0, .slice none 0 0], .int .i64 9]) (by simp [results, Tryz.results63, go_sem]) rfl ⟨rfl, ?_⟩
  exact (Below.refl _ _).alloc (Nat.le_refl _) _
set_option maxRecDepth 100000 in
set_option maxHeartbeats 4000000 in
theorem nsave_none {w : World} {X M : Nat → Prop} {base T p : Nat} {P : Int → Nat} {N : NdS} (h : NodeAt w X M base T p P N) {ref : Int} (hr : Wf ref) (hn : N.has ref = false) :
    Calls Tryz.prog 63 #[.pointer (some ⟨p, 0, none⟩), .int .i64 ref] w (SaveNo 4 w) := by
  have hplt := h.p_lt
  obtain ⟨mb, c3, hmb, _, hlk1, hlk2⟩ := h.look
  have hl1 := hlk2 ref hr hn (w.alloc (.cells #[.string ⟨#[]⟩, .slice none 0 0, .slice none 0 0] 80)) ((Fr.refl _ _).alloc _)
  clear h hlk1 hlk2
  go_enter Tryz.func63, Tryz.ntmps63
  go_wp2_with fail
  refine bodyPost_ret (v := .tuple #[.agg #[.string ⟨#[]⟩, .slice none 0 0, .slice none 0 0], .int .i64 4]) (by simp [results, Tryz.results63, go_sem]) rfl ⟨rfl, ?_⟩
  exact (Below.refl _ _).alloc (Nat.le_refl _) _
/-- one goes on for sure -/
def canL (N : NdS) (ref : Int) : Bool := match N.find ref with
  | some a => !a.waits
  | none => false
set_option maxRecDepth 100000 in
set_option maxHeartbeats 4000000 in
theorem canL_any {w : World} {X M : Nat → Prop} {base T p : Nat} {P : Int → Nat} {N : NdS} (h : NodeAt w X M base T p P N) {ref : Int} (hr : Wf ref) :
    Calls Tryz.prog 39 #[.pointer (some ⟨p, 0, none⟩), .int .i64 ref] w fun e w' => e = .returned (.bool (canL N ref)) ∧ Below w.heap.size w w' := by
  rcases ha : N.find ref with _ | a
  · have hn : N.has ref = false := by unfold NdS.has; rw [ha]; rfl
    have HS := Lib.hid (nsave_none h hr hn)
    have HC := Lib.hid (show canL N ref = false by unfold canL; rw [ha])
    clear h ha hn
    go_enter Tryz.func39, Tryz.ntmps39
    go_wp2_with fail
    refine HS.out.mono ?_
    rintro e w1 ⟨rfl, hb⟩
    have HB := Lib.hid hb
    clear hb
    go_wp2_with fail
    go_ret
    exact ⟨by rw [HC.out]; rfl, HB.out.alloc HB.out.size _⟩
  · rcases hw : a.waits with _ | _
    · have HS := Lib.hid (nsave_no h ha hw)
      have HC := Lib.hid (show canL N ref = true by unfold canL; rw [ha]; show (!a.waits) = true; rw [hw]; rfl)
      clear h ha hw
      go_enter Tryz.func39, Tryz.ntmps39
      go_wp2_with fail
      refine HS.out.mono ?_
      rintro e w1 ⟨rfl, hb⟩
      have HB := Lib.hid hb
      clear hb
      go_wp2_with fail
      go_ret
      exact ⟨by rw [HC.out]; rfl, HB.out.alloc HB.out.size _⟩
    · have HS := Lib.hid (nsave_any h ha hw)
      have HC := Lib.hid (show canL N ref = false by unfold canL; rw [ha]; show (!a.waits) = false; rw [hw]; rfl)
      clear h ha hw
      go_enter Tryz.func39, Tryz.ntmps39
      go_wp2_with fail
      refine HS.out.mono ?_
      rintro e w1 ⟨A', c', rfl, _, _, _, hb⟩
      have HB := Lib.hid hb
      clear hb
      go_wp2_with fail
      go_ret
      exact ⟨by rw [HC.out]; rfl, HB.out.alloc HB.out.size _⟩
end Go.Proofs.YtjjfglbcikaicaaGreat
namespace Go.Proofs.YtjjfglbcikaicaaGreat
open Go.RowKit Go.Maps
set_option linter.unusedVariables false
set_option linter.unusedSimpArgs false
/-- the parcel of an actor -/
def pclN (N : NdS) (a : ActS) : PclS := ⟨a.ref, a.d.nm, topV a.d.r, a.box, a.ticks, (rowD N.rows a.ref).ws, (rowD N.rows a.ref).ls⟩
theorem rowD_ok {rows : List Li.LR} (ok : Li.OkL (rowF rows) rows.length) (ref : Int) : (rowD rows ref).ws.length ≤ 100 ∧ (rowD rows ref).ls.length ≤ 100 := by
  by_cases hi : ∃ i, Li.OkIx (rowF rows) rows.length ref i
  · obtain ⟨i, hi⟩ := hi
    unfold rowD
    rw [okIx_iff ok hi]
    exact ⟨(ok.2 i hi.2.1).2.1, (ok.2 i hi.2.1).2.2.1⟩
  · unfold rowD
    rw [rowL_none ok hi]
    exact ⟨Nat.zero_le _, Nat.zero_le _⟩
theorem cells3_of {w : World} {q : Nat} {c0 c1 c2 : Value} (h0 : w.cell? ⟨q, 0, none⟩ = some c0) (h1 : w.cell? ⟨q, 1, none⟩ = some c1) (h2 : w.cell? ⟨q, 2, none⟩ = some c2) (hf : ∀ o, w.frozen? ⟨q, o, none⟩ = false) : CellsN w q [c0, c1, c2] := ⟨fun j u hu => by
  match j, hu with
  | 0, hu => injection hu with hu; subst hu; exact h0
  | 1, hu => injection hu with hu; subst hu; exact h1
  | 2, hu => injection hu with hu; subst hu; exact h2, hf, World.block_lt_of_cell? w _ h0⟩
set_option maxRecDepth 100000 in
set_option maxHeartbeats 8000000 in
theorem parcel_any {w : World} {X M : Nat → Prop} {base T p : Nat} {P : Int → Nat} {N : NdS} (h : NodeAt w X M base T p P N) {ref : Int} {a : ActS} (ha : N.find ref = some a) (hw : a.waits = true) :
    Calls Tryz.prog 36 #[.pointer (some ⟨p, 0, none⟩), .int .i64 ref] w (PclPost (pclN N a) w (fun v => .tuple #[v, .int .i64 0])) := by
  obtain ⟨hm, rfl⟩ := find_some ha
  obtain ⟨W, hW⟩ : ∃ W, W = w.alloc (.cells #[.int .i64 0, .string ⟨#[]⟩, .slice none 0 0, .slice none 0 0, .slice none 0 0, .int .i64 0, .slice none 0 0, .slice none 0 0] 82) := ⟨_, rfl⟩
  have hfW : Fr (fun _ => False) w W := by rw [hW]; exact (Fr.refl _ _).alloc _
  have HZ := Lib.hid (show CellsN W w.heap.size [.int .i64 0, .string ⟨#[]⟩, .slice none 0 0, .slice none 0 0, .slice none 0 0, .int .i64 0, .slice none 0 0, .slice none 0 0] by rw [hW]; exact cellsN_new w _ _)
  have HN := Lib.hid (h.new hfW (fun _ h => h))
  have HA := Lib.hid ha
  have HSV := Lib.hid (nsave_any HN.out ha hw)
  have hok := h.ok.act a hm
  have HBX := Lib.hid hok.box
  have HRO := Lib.hid (rowD_ok h.ok.rows.ok a.ref)
  have hzW := hfW.size
  have HF := Lib.hid hfW
  have HWW := Lib.hid hW
  have hplt := HN.out.p_lt
  clear h ha hm hok hW hfW
  go_enter Tryz.func36, Tryz.ntmps36
  go_wp2_with fail
  rw [← HWW.out]
  refine HSV.out.mono ?_
  rintro e w1 ⟨A2, c2, rfl, q1, q2, q3, hb1⟩
  have HQ := Lib.hid (And.intro q1 (And.intro q2 q3))
  have HB1 := Lib.hid (Fr.of_below (S := fun _ => False) hb1)
  clear q1 q2 q3 hb1 HSV
  go_wp2_with fail
  obtain ⟨W2, hW2⟩ : ∃ W2, W2 = w1.alloc (.cells #[.string a.d.nm, .slice A2 2 c2, .slice none 0 0] 80) := ⟨_, rfl⟩
  have hf2 : Fr (fun _ => False) w1 W2 := by rw [hW2]; exact (Fr.refl _ _).alloc _
  have HS2 := Lib.hid (show CellsN W2 w1.heap.size [.string a.d.nm, .slice A2 2 c2, .slice none 0 0] by rw [hW2]; exact cellsN_new w1 _ _)
  have HF2 := Lib.hid (HB1.out.trans' hf2)
  have HFW12 := Lib.hid hf2
  have HN2 := Lib.hid (HN.out.new HF2.out (fun _ h => h))
  have HZ2 := Lib.hid (HZ.out.fr HF2.out (fun h => h))
  obtain ⟨pa, b, rb, kb, ib, MA, mb, hpa, c3, hA, hMA, hlk, -⟩ := HN2.out.act HA.out
  have HLK := Lib.hid hlk
  have HAG := Lib.hid hA
  have HROW := Lib.hid (fun (W9 : World) (hf : Fr (fun _ => False) W2 W9) => row_any HN2.out hf a.ref)
  have l0 := hlk W2.drew ((Fr.refl _ _).drew)
  have l1 := hlk (W2.alloc (.cells #[.int .i64 0, .slice none 0 0, .slice none 0 0] 132)).drew (((Fr.refl _ _).alloc _).drew)
  have c3' : W2.drew.cell? ⟨p, 3, none⟩ = some (.map (some mb)) := c3
  have hplt2 := HN2.out.p_lt
  rw [← hW2]
  clear hW2 hf2 hpa hA hMA hlk
  go_cut [8, 9] (fun v8 v9 wx => v8 = .pointer (some ⟨pa, 0, none⟩) ∧ ∃ q A6 c6 A7 c7, v9 = .pointer (some ⟨q, 0, none⟩) ∧ CellsN wx q [.int .i64 (rowD N.rows a.ref).ref, .slice A6 (rowD N.rows a.ref).ws.length c6, .slice A7 (rowD N.rows a.ref).ls.length c7] ∧ Hid (NumIn wx (fun b => b < W2.heap.size) (.slice A6 (rowD N.rows a.ref).ws.length c6) (rowD N.rows a.ref).ws) ∧ Hid (NumIn wx (fun b => b < W2.heap.size) (.slice A7 (rowD N.rows a.ref).ls.length c7) (rowD N.rows a.ref).ls) ∧ Hid (Fr (fun _ => False) W2 wx))
  case first =>
    go_region_with (first
      | (go_at_call 64; refine (HROW.out _ (by (repeat' first | with_reducible exact Fr.refl _ _ | (with_reducible refine Fr.setEq ?_ _) | (with_reducible refine Fr.setNew ?_ _) | with_reducible refine Fr.alloc ?_ _ | with_reducible refine Fr.drewN ?_ _ | with_reducible refine Fr.drew ?_))).mono ?_; rintro e w3 ⟨v1, v2, rfl, n1, n2, hb3⟩; have HN1 := Lib.hid n1; have HN2' := Lib.hid n2; obtain ⟨A6, c6, e6, -⟩ := n1; obtain ⟨A7, c7, e7, -⟩ := n2; subst e6; subst e7; have HF3 := Lib.hid (show Fr (fun _ => False) W2 w3 from (show Fr (fun _ => False) W2 _ by (repeat' first | with_reducible exact Fr.refl _ _ | (with_reducible refine Fr.setEq ?_ _) | (with_reducible refine Fr.setNew ?_ _) | with_reducible refine Fr.alloc ?_ _ | with_reducible refine Fr.drewN ?_ _ | with_reducible refine Fr.drew ?_)).trans' (Fr.of_below (below_drew' hb3))); (first | (have HCQ := Lib.hid ((cellsN_new W2 [.int .i64 0, .slice none 0 0, .slice none 0 0] 132).fr (D := fun _ => False) (Fr.of_below (below_drew' hb3)) (fun h => h)); have k0 := HCQ.out.1 0 _ rfl; have k1 := HCQ.out.1 1 _ rfl; have k2 := HCQ.out.1 2 _ rfl; have kf := HCQ.out.2.1) | skip); have l3 := HLK.out w3 (HF3.out.weak (fun _ h => h.elim)); have l4 := HLK.out (w3.alloc (.cells #[.int .i64 0, .slice none 0 0, .slice none 0 0] 132)) ((HF3.out.alloc _).weak (fun _ h => h.elim)); have d3 := HF3.out.cell c3 (fun h => h); have hp3 := Nat.lt_of_lt_of_le hplt2 HF3.out.size; clear hb3))
    all_goals
      go_wp2_with fail
      go_meet
      refine ⟨rfl, ?_⟩
      first
        | (refine ⟨w3.heap.size, A6, c6, A7, c7, (by with_reducible rfl), ?_, ?_, ?_, ?_⟩
           · exact cellsN_new w3 [_, _, _] _
           · exact Lib.hid (HN1.out.fr (S := fun _ => False) ((Fr.refl _ _).alloc _) (fun _ _ h => h) (fun _ h => h))
           · exact Lib.hid (HN2'.out.fr (S := fun _ => False) ((Fr.refl _ _).alloc _) (fun _ _ h => h) (fun _ h => h))
           · exact Lib.hid (HF3.out.alloc _))
        | (refine ⟨W2.heap.size, A6, c6, A7, c7, (by with_reducible rfl), ?_, ?_, ?_, ?_⟩
           · exact cells3_of (set_other (set_other (set_this k0) (by decide)) (by decide)) (set_other (set_this (set_other k1 (by decide))) (by decide)) (set_this (set_other (set_other k2 (by decide)) (by decide))) (fun o => set_fz (set_fz (set_fz kf)) o)
           · refine Lib.hid (HN1.out.fr (S := fun k => k = W2.heap.size) ?_ (fun b hb e => by have h1 : b < W2.heap.size := hb; omega) (fun _ h => h))
             iterate 3 (refine Fr.setAt ?_ _)
             exact Fr.refl _ _
           · refine Lib.hid (HN2'.out.fr (S := fun k => k = W2.heap.size) ?_ (fun b hb e => by have h1 : b < W2.heap.size := hb; omega) (fun _ h => h))
             iterate 3 (refine Fr.setAt ?_ _)
             exact Fr.refl _ _
           · exact Lib.hid (((HF3.out.set (Or.inr (Nat.le_refl _)) _).set (Or.inr (Nat.le_refl _)) _).set (Or.inr (Nat.le_refl _)) _))
  case rest =>
    obtain ⟨rfl, q, A6, c6, A7, c7, rfl, HQc, HN6, HN7, HFc⟩ := hcut
    have s0 := (HS2.out.fr HFc.out (fun h => h)).1 0 _ rfl
    have s1 := (HS2.out.fr HFc.out (fun h => h)).1 1 _ rfl
    have s2 := (HS2.out.fr HFc.out (fun h => h)).1 2 _ rfl
    have q1 := HQc.1 1 _ rfl
    have q2 := HQc.1 2 _ rfl
    have hAc := HAG.out.fr (X' := X) HFc.out (fun _ h => h.elim) (fun k hk => .inl hk) (fun _ h => h.elim) (Nat.le_refl _) (fun _ _ h => h)
    obtain ⟨A4, c4, a2, k1, k2, k3⟩ := hAc.a2
    have a5 := hAc.a5
    have HBX2 := Lib.hid (And.intro k1 (And.intro k2 k3))
    have hpl := hAc.lt.1
    have hsl : w1.heap.size < wc.heap.size := (HS2.out.fr HFc.out (fun h => h)).2.2
    have hql := HQc.2.2
    have HZc := Lib.hid (HZ2.out.fr HFc.out (fun h => h))
    have HFA := Lib.hid ((HB1.out.trans' (show Fr (fun _ => False) w1 W2 from HFW12.out)).trans' HFc.out)
    have HCP := Lib.hid (fun (W9 : World) (hf : Fr (fun _ => False) wc W9) => pcopy_any (pclN N a) [.int .i64 a.ref, .string a.d.nm, .slice A2 2 c2, .slice none 0 0, .slice A4 a.box.length c4, .int .i64 a.ticks, .slice A6 (rowD N.rows a.ref).ws.length c6, .slice A7 (rowD N.rows a.ref).ls.length c7] (fun _ => True) W9
      ⟨A2, c2, A4, c4, _, _, rfl, HQ.out.1, HQ.out.2.1, HBX2.out.1, HBX2.out.2.1, HQ.out.2.2.frame (Nat.le_trans HFW12.out.size (Nat.le_trans HFc.out.size hf.size)) (fun b hb hlt => ⟨trivial, ((HFW12.out.trans' HFc.out).trans' hf).block b hlt (fun h => h)⟩), HBX2.out.2.2.frame hf.size (fun b hb hlt => ⟨trivial, hf.block b hlt (fun h => h)⟩), HN6.out.fr hf (fun _ _ h => h) (fun _ _ => trivial), HN7.out.fr hf (fun _ _ h => h) (fun _ _ => trivial)⟩
      HBX.out.1 (fun i hi => by have := (HBX.out.2.2 _ (nthL_mem hi)).2.2.2.2.2; have h2 : (nthL (pclN N a).box i).val.many = (nthL a.box i).val.many := rfl; omega) (fun i hi => by show (topV a.d.r i).many ≤ 4194304; unfold topV; split <;> simp [vLeaf, VT.many, sumTo]) (by have := HRO.out.1; show (rowD N.rows a.ref).ws.length ≤ 1000000; omega) (by have := HRO.out.2; show (rowD N.rows a.ref).ls.length ≤ 1000000; omega))
    clear hAc k1 k2 k3 HQc l0 l1 c3' c3
    go_wp2_with fail
    go_region
    go_wp2_with fail
    refine (HCP.out _ (by (repeat' first | with_reducible exact Fr.refl _ _ | (with_reducible refine Fr.setEq ?_ _) | (with_reducible refine Fr.setNew ?_ _) | with_reducible refine Fr.alloc ?_ _ | with_reducible refine Fr.drewN ?_ _ | with_reducible refine Fr.drew ?_))).mono ?_
    rintro e w5 ⟨B2, d2, B4, d4, C4, B6, d6, B7, d7, rfl, g1, g2, g3, g4, g5, g6, hb5⟩
    simp only [id]
    have hf5 : Fr (fun _ => False) wc w5 := (show Fr (fun _ => False) wc _ by (repeat' first | with_reducible exact Fr.refl _ _ | (with_reducible refine Fr.setEq ?_ _) | (with_reducible refine Fr.setNew ?_ _) | with_reducible refine Fr.alloc ?_ _ | with_reducible refine Fr.drewN ?_ _ | with_reducible refine Fr.drew ?_)).trans' (Fr.of_below hb5)
    have HZ5 := Lib.hid (HZc.out.fr hf5 (fun h => h))
    have hzz : W.heap.size ≤ (wc.alloc (.cells #[.int .i64 a.ref, .string a.d.nm, .slice A2 2 c2, .slice none 0 0, .slice A4 a.box.length c4, .int .i64 a.ticks, .slice A6 (rowD N.rows a.ref).ws.length c6, .slice A7 (rowD N.rows a.ref).ls.length c7] 82)).drew.heap.size := by
      have h1 := HFA.out.size
      show W.heap.size ≤ (wc.alloc _).heap.size
      simp
      omega
    have hq0 : w.heap.size < W.heap.size := HZ.out.2.2
    have hlow : w.heap.size ≤ (wc.alloc (.cells #[.int .i64 a.ref, .string a.d.nm, .slice A2 2 c2, .slice none 0 0, .slice A4 a.box.length c4, .int .i64 a.ticks, .slice A6 (rowD N.rows a.ref).ws.length c6, .slice A7 (rowD N.rows a.ref).ls.length c7] 82)).drew.heap.size := by omega
    have HG3 := Lib.hid (RdV.lower g3 (by exact hzz))
    have HG4 := Lib.hid (LRow.lower g4 (by exact hzz))
    have HG5 := Lib.hid (OwnI.mono (base' := W.heap.size) g5 hzz)
    have HG6 := Lib.hid (OwnI.mono (base' := W.heap.size) g6 hzz)
    have HF5 := Lib.hid ((HF.out.trans' HFA.out).trans' hf5)
    have z0 := HZ5.out.1 0 _ rfl
    have z1 := HZ5.out.1 1 _ rfl
    have z2 := HZ5.out.1 2 _ rfl
    have z3 := HZ5.out.1 3 _ rfl
    have z4 := HZ5.out.1 4 _ rfl
    have z5 := HZ5.out.1 5 _ rfl
    have z6 := HZ5.out.1 6 _ rfl
    have z7 := HZ5.out.1 7 _ rfl
    have zf := HZ5.out.2.1
    clear g3 g4 g5 g6 hb5 hf5 hzz hlow HCP
    go_wp2_with fail
    refine bodyPost_ret (v := .tuple #[.agg #[.int .i64 a.ref, .string a.d.nm, .slice B2 2 d2, .slice none 0 0, .slice B4 a.box.length d4, .int .i64 a.ticks, .slice B6 (rowD N.rows a.ref).ws.length d6, .slice B7 (rowD N.rows a.ref).ls.length d7], .int .i64 0]) (by simp [results, Tryz.results36, go_sem, z0, z1, z2, z3, z4, z5, z6, z7, pclN]) rfl ⟨B2, d2, B4, d4, C4, B6, d6, B7, d7, rfl, g1, g2, ?_, ?_, ?_, ?_, ?_⟩
    · refine RdV.lower (B := W.heap.size) (RdV.fr3 (D := fun k => k = w.heap.size) HG3.out ?_ (fun k hk => by omega)) (by omega)
      iterate 8 (refine Fr.setAt ?_ _)
      exact Fr.refl _ _
    · refine LRow.lower (base := W.heap.size) (LRow.fr (S := fun k => k = w.heap.size) HG4.out ?_ (fun k hk => by omega)) (by omega)
      iterate 8 (refine Fr.setAt ?_ _)
      exact Fr.refl _ _
    · refine OwnI.fr (S := fun k => k = w.heap.size) (OwnI.mono (base' := w.heap.size) HG5.out (by omega)) ?_ (fun k hk hq => by have := (HG5.out.blk k hk).1; omega)
      iterate 8 (refine Fr.setAt ?_ _)
      exact Fr.refl _ _
    · refine OwnI.fr (S := fun k => k = w.heap.size) (OwnI.mono (base' := w.heap.size) HG6.out (by omega)) ?_ (fun k hk hq => by have := (HG6.out.blk k hk).1; omega)
      iterate 8 (refine Fr.setAt ?_ _)
      exact Fr.refl _ _
    · iterate 8 (refine below_set ?_ (Nat.le_refl _))
      exact HF5.out.below (fun _ h => h.elim) (Nat.le_refl _)
end Go.Proofs.YtjjfglbcikaicaaGreat
namespace Go.Proofs.YtjjfglbcikaicaaGreat
open Go.RowKit
set_option linter.unusedVariables false
/-- the numbers l, read through a slice whose block lies in S -/
def RdI (w : World) (S : Nat → Prop) (A : Option Addr) (l : List Int) : Prop :=
  0 < l.length → ∃ b off, A = some ⟨b, off, none⟩ ∧ b < w.heap.size ∧ S b ∧ ∀ j, j < l.length → w.cell? ⟨b, off + j, none⟩ = some (.int .i64 (lst l j))
/-- the lines Q, read through a slice whose blocks lie in S -/
def RdLs (w : World) (S : Nat → Prop) (A : Option Addr) (n : Nat) (Q : Nat → List Int) : Prop :=
  0 < n → ∃ b off, A = some ⟨b, off, none⟩ ∧ b < w.heap.size ∧ S b ∧ ∀ i, i < n → ∃ (qA : Option Addr) (qc : Nat), w.cell? ⟨b, off + i, none⟩ = some (.slice qA (Q i).length qc) ∧ (Q i).length ≤ qc ∧ qc ≤ 9223372036854775807 ∧ (qA = none → (Q i).length = 0) ∧ RdI w S qA (Q i)
theorem RdI.frame {w w' : World} {S S' : Nat → Prop} {A : Option Addr} {l : List Int} (h : RdI w S A l) (hsz : w.heap.size ≤ w'.heap.size) (hS : ∀ b, S b → b < w.heap.size → S' b ∧ w'.heap[b]? = w.heap[b]?) : RdI w' S' A l := fun h0 => by
  obtain ⟨b, off, hA, hb, hs, hc⟩ := h h0
  obtain ⟨s1, s2⟩ := hS b hs hb
  exact ⟨b, off, hA, by omega, s1, fun j hj => (World.cell?_of_block (a := ⟨b, _, none⟩) s2).trans (hc j hj)⟩
theorem RdLs.frame {w w' : World} {S S' : Nat → Prop} {A : Option Addr} {n : Nat} {Q : Nat → List Int} (h : RdLs w S A n Q) (hsz : w.heap.size ≤ w'.heap.size) (hS : ∀ b, S b → b < w.heap.size → S' b ∧ w'.heap[b]? = w.heap[b]?) : RdLs w' S' A n Q := fun h0 => by
  obtain ⟨b, off, hA, hb, hs, hc⟩ := h h0
  obtain ⟨s1, s2⟩ := hS b hs hb
  refine ⟨b, off, hA, by omega, s1, fun i hi => ?_⟩
  obtain ⟨qA, qc, h1, h2, h3, h4, h5⟩ := hc i hi
  exact ⟨qA, qc, (World.cell?_of_block (a := ⟨b, _, none⟩) s2).trans h1, h2, h3, h4, h5.frame hsz hS⟩
theorem RdI.below {w w' : World} {S : Nat → Prop} {A : Option Addr} {l : List Int} (h : RdI w S A l) (hb : Below w.heap.size w w') : RdI w' S A l := h.frame hb.size (fun b hs hlt => ⟨hs, hb.block b hlt⟩)
theorem RdLs.below {w w' : World} {S : Nat → Prop} {A : Option Addr} {n : Nat} {Q : Nat → List Int} (h : RdLs w S A n Q) (hb : Below w.heap.size w w') : RdLs w' S A n Q := h.frame hb.size (fun b hs hlt => ⟨hs, hb.block b hlt⟩)
theorem RdI.rd {w : World} {S : Nat → Prop} {A : Option Addr} {l : List Int} (h : RdI w S A l) : Rd w 1 (tmC (lst l)) A l.length := fun h0 => by
  obtain ⟨b, off, hA, hb, _, hc⟩ := h h0
  refine ⟨b, off, hA, hb, fun k hk j u hu => ?_⟩
  match j, hu with
  | 0, hu =>
    simp [tmC] at hu
    subst hu
    rw [Nat.mul_one, Nat.add_zero]
    exact hc k hk
/-- the tasks of the first i lines -/
def catTo (Q : Nat → List Int) : Nat → List Int
  | 0 => []
  | i + 1 => catTo Q i ++ Q i
theorem catTo_mono (Q : Nat → List Int) {i k : Nat} (h : i ≤ k) : ∃ m, catTo Q k = catTo Q i ++ m := by
  induction k with
  | zero => obtain rfl : i = 0 := by omega
            exact ⟨[], by simp⟩
  | succ k ih =>
    by_cases e : i = k + 1
    · subst e; exact ⟨[], by simp⟩
    · obtain ⟨m, hm⟩ := ih (by omega)
      exact ⟨m ++ Q k, by rw [catTo, hm, List.append_assoc]⟩
theorem grow_run (w : World) (ty : TypeId) (n : Nat) (h0 : 0 < n) (hn : n ≤ 1000000) : ∃ cap w', (Builtin.append_ #[26, 3] ty #[.slice none 0 0, .int .i64 n]).run Tryz.prog w = .ok (.slice (some ⟨w.heap.size, 0, none⟩) n cap) w' ∧ n ≤ cap ∧
    w'.ownsRow w.heap.size 3 1 (.slice (some ⟨w.heap.size, 0, none⟩) 0 cap) 0 [] ∧ Below w.heap.size w w' := by
  obtain ⟨i0, hi, hz0, hz1, hz2⟩ := info_parts infoI
  have hle := grownCap_ge w n 0 3
  have hr := Lib.run_append_nil_zeros (P := Tryz.prog) w 26 3 ty 3 i0 (.int .i64 0) .i64 .i64 Tryz.underlying26 Tryz.underlying3 hi hz0 n h0 (by omega) (by omega) (by rw [hz2]; omega)
  refine ⟨_, _, hr, hle, World.ownsRow_made w.drew _ _ (Nat.le_refl _) ?_ ?_, ((Below.refl _ _).drew).alloc (Nat.le_refl _) _⟩
  · exact grownCap_le_maxLen w n 0 3 (by unfold maxLen; omega)
  · rw [Array.size_append, size_zeroCells, size_zeroCells, show (Value.int IntKind.i64 0).cells.size = 1 from rfl]; omega
def GrowPost (w : World) (e : Ending) (w' : World) : Prop := ∃ v, e = .returned v ∧ w'.ownsRow w.heap.size 3 1 v 0 [] ∧ Below w.heap.size w w'
set_option maxHeartbeats 800000 in
theorem growI_any (n : Nat) (w : World) (hn : n ≤ 1000000) : Calls Tryz.prog 100 #[.slice none 0 0, .int .i64 n] w (GrowPost w) := by
  by_cases h0 : 0 < n
  · have e0 : decide ((n : Int) < 0) = false := by simp
    have e1 : decide ((0 : Int) < (n : Int)) = true := by simp; omega
    obtain ⟨cap, w1, hr, hcap, hown, hb⟩ := grow_run w 26 n h0 hn
    have HO := Lib.hid hown
    have HB := Lib.hid hb
    have HR := Lib.hid hr
    clear hown hb hr
    go_enter Tryz.func100, Tryz.ntmps100
    go_wp2_with (at_builtin; refine Lib.wpList_append_run _ rfl _ _ _ _ rfl _ _ rfl rfl _ _ HR.out ?_)
    go_ret
    exact ⟨_, rfl, HO.out, HB.out⟩
  · obtain rfl : n = 0 := by omega
    go_enter Tryz.func100, Tryz.ntmps100
    go_wp2_with fail
    go_ret
    exact ⟨_, rfl, World.ownsRow_nil _ _ _ _, Below.refl _ _⟩
def CatPost (l : List Int) (w : World) (e : Ending) (w' : World) : Prop := ∃ v, e = .returned v ∧ OwnI w' w.heap.size v l ∧ Below w.heap.size w w'
theorem catTo_le (Q : Nat → List Int) {i k : Nat} (h : i ≤ k) : (catTo Q i).length ≤ (catTo Q k).length := by
  obtain ⟨m, hm⟩ := catTo_mono Q h
  rw [hm, List.length_append]; omega
theorem encI_append (a b : List Int) : encI (a ++ b) = encI a ++ encI b := by simp [encI]
theorem encI_one (l : List Int) : ∀ u ∈ encI l, u.oneCell' = true := by
  intro u hu
  simp [encI] at hu
  obtain ⟨a, _, rfl⟩ := hu
  rfl
theorem append_none (w : World) (ty : TypeId) (base : Nat) (v : Value) (n : Nat) (xs : List Value) (hown : w.ownsRow base 3 1 v n xs) (qc : Nat) : (Builtin.append_ #[26, 26] ty #[v, .slice none 0 qc]).run Tryz.prog w = .ok v w := by
  obtain ⟨i0, hi, hz0, hz1, hz2⟩ := info_parts infoI
  rcases hown.2 with ⟨rfl, rfl⟩ | ⟨g, cap, cur, rfl, _, _, hnc, _⟩
  · simp [Builtin.append_, run_underlying Tryz.underlying26, sizeOf, typeInfo, hi, Builtin.lenOf, Builtin.firstCells]
  · simp [Builtin.append_, run_underlying Tryz.underlying26, sizeOf, typeInfo, hi, Builtin.lenOf, Builtin.firstCells, hnc, storeCells]
set_option maxRecDepth 100000 in
set_option maxHeartbeats 2000000 in
theorem concat_any (A : Option Addr) (n c : Nat) (Q : Nat → List Int) (S : Nat → Prop) (w : World) (hn : n ≤ c) (hc : c ≤ 9223372036854775807) (hR : RdLs w S A n Q) (hl : (catTo Q n).length ≤ 1000000) :
    Calls Tryz.prog 69 #[.slice A n c] w (CatPost (catTo Q n) w) := by
  obtain ⟨i0, hi, hz0, hz1, hz2⟩ := info_parts infoI
  have HR := Lib.hid hR
  have HL := Lib.hid hl
  clear hR hl
  go_enter Tryz.func69, Tryz.ntmps69
  go_wp2_with fail
  go_loop [3, 5, 11] (fun t _ x => ∃ i : Nat, i ≤ n ∧ x = .int .i64 i ∧ t = .int .i64 (catTo Q i).length) (fun _ _ x => n - (intOf x).toNat)
  case atStart => exact ⟨0, Nat.zero_le _, rfl, rfl⟩
  case round =>
    obtain ⟨i, hin, rfl, rfl⟩ := hrel
    by_cases hlt : i < n
    · obtain ⟨b, off, rfl, hb, hSb, hcell⟩ := HR.out (by omega)
      obtain ⟨qA, qc, c0, h2, h3, h4, h5⟩ := hcell i hlt
      have hcl : (catTo Q (i + 1)).length = (catTo Q i).length + (Q i).length := by rw [catTo, List.length_append]
      have hle := catTo_le Q (show i + 1 ≤ n by omega)
      have hml := HL.out
      have e1 : decide (((catTo Q i).length : Int) + ((Q i).length : Int) < 0) = false := by simp; omega
      have HCL := Lib.hid hcl
      have hs1 : (catTo Q i).length ≤ 1000000 := by omega
      have hs2 : (Q i).length ≤ 1000000 := by omega
      clear hcell h5 h4 hcl hle hml
      go_wp2_with fail
      go_round
      case rel => exact ⟨i + 1, by omega, by go_num, by rw [HCL.out]; go_num⟩
      case measure => simp [intOf]; omega
    · obtain rfl : n = i := by omega
      have hml := HL.out
      go_wp2_with fail
      refine (growI_any _ _ HL.out).mono ?_
      rintro e w1 ⟨v1, rfl, hown1, hb1⟩
      have HO1 := Lib.hid hown1
      have HB1 := Lib.hid hb1
      clear hown1 hb1
      go_wp2_with fail
      go_loopw [6, 8, 27] (fun o _ x wr => ∃ (i : Nat) (v : Value), i ≤ n ∧ x = .int .i64 i ∧ v = o ∧ OwnI wr w.heap.size v (catTo Q i) ∧ Below w.heap.size w wr) (fun _ _ x _ => n - (intOf x).toNat)
      case atStart => exact ⟨0, _, Nat.zero_le _, rfl, rfl, HO1.out, HB1.out⟩
      case round =>
        obtain ⟨i, v, hin, rfl, rfl, hO, hB⟩ := hrel
        have HO := Lib.hid hO
        have HB := Lib.hid hB
        have hBs := hB.size
        obtain ⟨Ao, co, rfl, hnco, hcmo, _⟩ := own_any hO
        by_cases hlt : i < n
        · obtain ⟨b, off, rfl, hb, hSb, hcell⟩ := HR.out (by omega)
          obtain ⟨qA, qc, h1, h2, h3, h4, h5⟩ := hcell i hlt
          have c0 : wr.cell? ⟨b, off + i, none⟩ = some (.slice qA (Q i).length qc) := (hB.cell (p := ⟨b, _, none⟩) hb).trans h1
          have hcl : (catTo Q (i + 1)).length = (catTo Q i).length + (Q i).length := by rw [catTo, List.length_append]
          have hle := catTo_le Q (show i + 1 ≤ n by omega)
          have HQ := Lib.hid ((h5.below hB).rd)
          have H4 := Lib.hid h4
          have HLC := Lib.hid (show (catTo Q i).length + (Q i).length ≤ 1000000 by omega)
          clear hO hB hcell h1 h5 h4 hcl hle
          cases qA with
          | none =>
            have hz : (Q i).length = 0 := H4.out rfl
            have HAN := Lib.hid (append_none wr 26 w.heap.size _ _ _ HO.out qc)
            go_wp2_with (at_builtin; refine Lib.wpList_append_run _ rfl _ _ _ _ rfl _ _ rfl rfl _ _ HAN.out ?_)
            refine ⟨⟨i + 1, _, by omega, by go_num, rfl, ?_, HB.out⟩, by simp [intOf]; omega⟩
            rw [catTo, List.eq_nil_of_length_eq_zero hz, List.append_nil]
            exact HO.out
          | some qa =>
            have HQ2 := Lib.hid (show ∀ j u, (encI (Q i))[j]? = some u → wr.cell? (qa.add j) = some u from fun j u hu => by
              have hj : j < (Q i).length := by
                rcases Nat.lt_or_ge j (Q i).length with hh | hh
                · exact hh
                · rw [List.getElem?_eq_none (by simp [encI]; exact hh)] at hu; cases hu
              obtain ⟨b1, o1, hA, _, hc1⟩ := HQ.out (by omega)
              injection hA with hA
              subst hA
              rw [Go.WideShapes.add_plain]
              have := hc1 j hj 0 _ rfl
              simp [encI, hj] at hu
              simp [lst, hj] at this
              rw [this, hu])
            go_wp2_with (at_builtin; go_loud (refine wpList_append_own_at _ rfl _ _ 26 rfl w.heap.size 3 i0 _ 1 8 Tryz.underlying26 hi hz0 hz1 hz2 rfl (by omega) (.slice Ao (catTo Q i).length co) (catTo Q i).length (encI (catTo Q i)) rfl HO.out qa (Q i).length qc (encI (Q i)) rfl (by simp [encI]) HQ2.out (encI_one _) (by have := HLC.out; unfold maxLen; omega) (by have := HLC.out; omega) hBs ?_; intro v2 w2 hown2 hgrow2 _ _; have HO2 := Lib.hid hown2; have HG2 := Lib.hid hgrow2; clear hown2 hgrow2))
            refine ⟨⟨i + 1, v2, by omega, by go_num, rfl, ?_, ?_⟩, by simp [intOf]; omega⟩
            · unfold OwnI
              rw [catTo, List.length_append, encI_append]
              exact HO2.out
            · exact below_grown HB.out hBs HG2.out (fun k hk => (HO.out.blk k hk).1)
        · obtain rfl : n = i := by omega
          clear hO hB
          go_wp2_with fail
          go_ret
          exact ⟨_, rfl, HO.out, HB.out⟩
end Go.Proofs.YtjjfglbcikaicaaGreat
namespace Go.Proofs.YtjjfglbcikaicaaGreat
open Go.RowKit
set_option linter.unusedVariables false
set_option linter.unusedSimpArgs false
/-- all but x wait, or do not, as they did; who is new has a new reference -/
structure Oth (x : Int) (N N' : NdS) : Prop where
  id : N'.id = N.id
  sp : N.spawned ≤ N'.spawned
  oth : ∀ b, b ∈ N'.acts → b.ref ≠ x → (∃ a, a ∈ N.acts ∧ a.ref = b.ref ∧ a.waits = b.waits) ∨ (N.id * 1000 + (N.spawned : Int) < b.ref ∧ b.ref ≤ N.id * 1000 + (N'.spawned : Int))
theorem Oth.refl (x : Int) (N : NdS) : Oth x N N := ⟨rfl, Nat.le_refl _, fun b hb _ => .inl ⟨b, hb, rfl, rfl⟩⟩
theorem Oth.trans {x : Int} {N N1 N2 : NdS} (h : Oth x N N1) (k : Oth x N1 N2) : Oth x N N2 := by
  refine ⟨k.id.trans h.id, Nat.le_trans h.sp k.sp, fun b hb hx => ?_⟩
  have h1 := h.id
  have h2 := h.sp
  have h3 := k.sp
  rcases k.oth b hb hx with ⟨a, ha, e1, e2⟩ | hn
  · rcases h.oth a ha (by rw [e1]; exact hx) with ⟨c, hc, e3, e4⟩ | hn
    · exact .inl ⟨c, hc, e3.trans e1, e4.trans e2⟩
    · refine .inr ?_
      rw [← e1]
      omega
  · refine .inr ?_
    rw [h1] at hn
    omega
/-- nothing but the actors matters -/
theorem Oth.acts {x : Int} {N N' : NdS} (h1 : N'.id = N.id) (h2 : N'.spawned = N.spawned) (h3 : N'.acts = N.acts) : Oth x N N' := ⟨h1, Nat.le_of_eq h2.symm, fun b hb _ => .inl ⟨b, h3 ▸ hb, rfl, rfl⟩⟩
theorem Oth.setA {x : Int} {N : NdS} {a a' : ActS} (ha : a ∈ N.acts) (hr : a'.ref = a.ref) (hw : a.ref ≠ x → a'.waits = a.waits) : Oth x N (N.setA a') := by
  refine ⟨rfl, Nat.le_refl _, fun b hb hx => ?_⟩
  rcases mem_setA.1 hb with ⟨c, hc, e, rfl⟩ | ⟨hb, _⟩
  · exact .inl ⟨a, ha, hr.symm, (hw (by rw [← hr]; exact hx)).symm⟩
  · exact .inl ⟨b, hb, rfl, rfl⟩
theorem Oth.delA {x : Int} {N : NdS} (r : Int) (l : List Li.LR) : Oth x N { N.delA r with rows := l } := ⟨rfl, Nat.le_refl _, fun b hb _ => .inl ⟨b, (List.mem_filter.1 hb).1, rfl, rfl⟩⟩
section
variable {x : Int} {rem : NdS → Int → ByteArray → NdS}
theorem deliverW_oth (hr : ∀ M r t, Oth x M (rem M r t)) (N : NdS) (y : LT) : Oth x N (deliverW rem N y) := by
  unfold deliverW
  split
  · split
    · exact Oth.refl x N
    · rename_i a ha
      obtain ⟨hm, _⟩ := find_some ha
      refine Oth.setA hm ?_ (fun _ => ?_)
      · unfold putBox; split <;> rfl
      · unfold putBox; split <;> rfl
  · split
    · exact Oth.acts rfl rfl rfl
    · split
      · exact Oth.acts rfl rfl rfl
      · split
        · split
          · exact hr _ _ _
          · exact Oth.refl x N
        · exact Oth.refl x N
theorem send1W_oth (hr : ∀ M r t, Oth x M (rem M r t)) (N : NdS) (y : LT) : Oth x N (send1W rem N y) := by
  unfold send1W
  split
  · exact deliverW_oth hr N y
  · split
    · exact Oth.acts rfl rfl rfl
    · exact Oth.refl x N
theorem replyW_oth (hr : ∀ M r t, Oth x M (rem M r t)) (N : NdS) (y : LT) : Oth x N (replyW rem N y) := by
  unfold replyW
  split
  · exact Oth.refl x N
  · exact send1W_oth hr N _
theorem sendW_oth (hr : ∀ M r t, Oth x M (rem M r t)) (N : NdS) (y : LT) : Oth x N (sendW rem N y) := by
  unfold sendW
  split
  · exact deliverW_oth hr N y
  · split
    · exact Oth.acts rfl rfl rfl
    · exact replyW_oth hr N y
theorem foldl_oth (hr : ∀ M r t, Oth x M (rem M r t)) : ∀ (l : List LT) (N : NdS), Oth x N (l.foldl (sendW rem) N)
  | [], N => Oth.refl x N
  | y :: l, N => (sendW_oth hr N y).trans (foldl_oth hr l _)
end
theorem remN_oth (x : Int) : ∀ (k : Nat) (N : NdS) (ref : Int) (failed : Bool) (text : ByteArray), Oth x N (remN k N ref failed text)
  | 0, N, _, _, _ => Oth.refl x N
  | k + 1, N, ref, failed, text => (Oth.delA ref (goneL N.rows ref)).trans (foldl_oth (fun M r t => remN_oth x k M r true t) _ _)
theorem sendN_oth (x : Int) (N : NdS) (y : LT) : Oth x N (sendN N y) := sendW_oth (fun M r t => remN_oth x 60 M r true t) N y
theorem spawnN_oth (x : Int) (N : NdS) (nm : ByteArray) : Oth x N (spawnN N nm).1 := by
  unfold spawnN
  dsimp only
  split
  · exact Oth.refl x N
  · split
    · exact Oth.refl x N
    · split
      · exact Oth.refl x N
      · refine ⟨rfl, Nat.le_succ _, fun b hb hx => ?_⟩
        rcases mem_insA.1 hb with rfl | hb
        · exact .inr ⟨by show _ < N.id * 1000 + (N.spawned : Int) + 1; omega, by show N.id * 1000 + (N.spawned : Int) + 1 ≤ N.id * 1000 + ((N.spawned + 1 : Nat) : Int); omega⟩
        · exact .inl ⟨b, hb, rfl, rfl⟩
theorem armN_oth {N2 : NdS} {r : Int} {a : ActS} (o : OutS) (ha : a ∈ N2.acts) (hr : a.ref = r) : Oth r N2 (armN N2 r a o).1 := by
  unfold armN
  split
  · exact Oth.acts rfl rfl rfl
  split
  · exact sendN_oth r _ _
  split
  · exact sendN_oth r _ _
  split
  · exact Oth.trans (N1 := { N2 with rows := linkL N2.rows r o.num }) (Oth.acts rfl rfl rfl) (sendN_oth r _ _)
  split
  · dsimp only
    split
    · exact spawnN_oth r _ _
    · rename_i b hb
      refine (spawnN_oth r _ _).trans (Oth.setA (find_some hb).1 rfl (fun h => absurd (find_some hb).2 h))
  split
  · exact Oth.setA ha rfl (fun h => absurd hr h)
  split
  · exact remN_oth r _ _ _ _ _
  split
  · exact remN_oth r _ _ _ _ _
  · exact Oth.refl r N2
theorem goA_ref' (a : ActS) : (goA a).1.ref = a.ref := by
  unfold goA
  split
  · unfold wakeA
    split
    · rfl
    · split <;> rfl
  · rfl
theorem stepN_oth (N : NdS) (r : Int) : Oth r N (stepN N r).1 := by
  rcases ha : N.find r with _ | a
  · unfold stepN
    rw [ha]
    exact Oth.refl r N
  · obtain ⟨hm, hr⟩ := find_some ha
    have h1 : Oth r N (N.setA (goA a).1) := Oth.setA hm (goA_ref' a) (fun h => absurd hr h)
    rcases hg : (goA a).2 with _ | _
    · rw [stepN_no ha hg]
      exact h1
    · rw [stepN_go ha hg]
      have hm1 : (goA a).1 ∈ (N.setA (goA a).1).acts := mem_setA.2 (.inl ⟨a, hm, (goA_ref' a).symm, rfl⟩)
      have hm2 : ranA N a ∈ ((N.setA (goA a).1).setA (ranA N a)).acts := mem_setA.2 (.inl ⟨_, hm1, rfl, rfl⟩)
      have h2 : Oth r (N.setA (goA a).1) ((N.setA (goA a).1).setA (ranA N a)) := Oth.setA hm1 rfl (fun h => absurd ((goA_ref' a).trans hr) h)
      exact (h1.trans h2).trans (armN_oth _ hm2 ((goA_ref' a).trans hr))
theorem loopN_oth (r : Int) : ∀ (k : Nat) (N : NdS), Oth r N (loopN k N r)
  | 0, N => Oth.refl r N
  | k + 1, N => by
    unfold loopN
    split
    · split
      · exact (stepN_oth N r).trans (loopN_oth r k _)
      · exact stepN_oth N r
    · exact Oth.refl r N
theorem turnN_oth {N : NdS} (h : readyN N ≠ []) : Oth (nextI (readyN N) N.last) N (turnN N).1 ∧ (turnN N).2.1 = nextI (readyN N) N.last ∧ (turnN N).1.last = nextI (readyN N) N.last := by
  unfold turnN
  rw [if_neg h]
  refine ⟨Oth.trans (N1 := { N with last := nextI (readyN N) N.last }) (Oth.acts rfl rfl rfl) (loopN_oth _ _ _), rfl, ?_⟩
  exact (loopN_keep _ { N with last := nextI (readyN N) N.last } _).last
/-- a comes before b, seen from r on and round -/
def cyLt (r a b : Int) : Prop := (r < a ∧ (b < r ∨ a < b)) ∨ (a < r ∧ b < r ∧ a < b)
theorem cyLt.trans {r a b c : Int} (h : cyLt r a b) (k : cyLt r b c) : cyLt r a c := by unfold cyLt at *; omega
theorem cyLt.irr {r a : Int} (h : cyLt r a a) : False := by unfold cyLt at h; omega
theorem next_cy {l : List Int} {last r : Int} (hs : l.Pairwise (· < ·)) (hr : r ∈ l) (hl : last ≠ r) (hx : nextI l last ≠ r) : cyLt r last (nextI l last) := by
  have key : ∀ l : List Int, l.Pairwise (· < ·) → r ∈ l → last < r → ∃ n, l.find? (fun n => decide (last < n)) = some n ∧ n ≤ r ∧ last < n := fun l => by
    induction l with
    | nil => intro _ h; cases h
    | cons a l ih =>
      intro hs hr hlr
      by_cases ha : last < a
      · refine ⟨a, List.find?_cons_of_pos (by simpa using ha), ?_, ha⟩
        rcases List.mem_cons.1 hr with e | hm
        · omega
        · have := (List.pairwise_cons.1 hs).1 r hm
          omega
      · rw [List.find?_cons_of_neg (by simpa using ha)]
        refine ih (List.pairwise_cons.1 hs).2 ?_ hlr
        rcases List.mem_cons.1 hr with e | hm
        · omega
        · exact hm
  unfold nextI at hx ⊢
  rcases Int.lt_or_lt_of_ne hl with h | h
  · obtain ⟨n, e, h1, h2⟩ := key l hs hr h
    rw [e] at hx ⊢
    dsimp only at hx ⊢
    unfold cyLt
    omega
  · rcases hf : l.find? (fun n => decide (last < n)) with _ | n
    · rw [hf] at hx
      dsimp only at hx ⊢
      rcases l with _ | ⟨a, l⟩
      · cases hr
      · have ha : a ≤ r := by
          rcases List.mem_cons.1 hr with e | hm
          · omega
          · have := (List.pairwise_cons.1 hs).1 r hm
            omega
        have e : List.headD (a :: l) 0 = a := rfl
        rw [e] at hx ⊢
        unfold cyLt
        omega
    · have h2 : last < n := by simpa using List.find?_some hf
      dsimp only
      unfold cyLt
      omega
/-- who goes on for sure -/
def goesN (N : NdS) (r : Int) : Prop := ∃ a, a ∈ N.acts ∧ a.ref = r ∧ a.waits = false
/-- where the law NodeFair stands: had, those that had a turn -/
def FairI (N : NdS) (B : Int) (had : List Int) : Prop := ∀ r, goesN N r → r ≤ B → r ∉ had → had.Pairwise (cyLt r) ∧ ∀ h, had.getLast? = some h → N.last = h
theorem FairI.nil (N : NdS) (B : Int) : FairI N B [] := fun r _ _ _ => ⟨List.Pairwise.nil, fun h e => by cases e⟩
theorem goes_ready {N : NdS} {r : Int} (h : goesN N r) : r ∈ readyN N := by
  obtain ⟨a, ha, hr, hw⟩ := h
  unfold readyN
  refine List.mem_map.2 ⟨a, List.mem_filter.2 ⟨ha, ?_⟩, hr⟩
  unfold canA
  rw [hw]
  rfl
theorem ready_srt {N : NdS} (hs : N.acts.Pairwise fun a b => a.ref < b.ref) : (readyN N).Pairwise (· < ·) := by
  unfold readyN
  exact List.pairwise_map.2 (hs.filter _)
theorem fair_step {N : NdS} {B : Int} {had : List Int} (hs : N.acts.Pairwise fun a b => a.ref < b.ref) (hB : B ≤ N.id * 1000 + (N.spawned : Int)) (hI : FairI N B had) (h0 : readyN N ≠ []) :
    FairI (turnN N).1 B (had ++ [(turnN N).2.1]) ∧ ((turnN N).2.1 ∈ had → ∀ r, goesN (turnN N).1 r → r ≤ B → r ∈ had) := by
  obtain ⟨ho, hx, hl⟩ := turnN_oth h0
  rw [hx]
  generalize hxe : nextI (readyN N) N.last = x at *
  have back : ∀ r, goesN (turnN N).1 r → r ≤ B → r ≠ x → goesN N r := fun r hg hr hne => by
    obtain ⟨b, hb, e, hw⟩ := hg
    rcases ho.oth b hb (by rw [e]; exact hne) with ⟨a, ha, e1, e2⟩ | hn
    · exact ⟨a, ha, e1.trans e, e2.trans hw⟩
    · rw [e] at hn
      omega
  have main : ∀ r, goesN (turnN N).1 r → r ≤ B → r ≠ x → r ∉ had → ∀ a, a ∈ had → cyLt r a x := fun r hg hr hne hnh a ha => by
    have hgN := back r hg hr hne
    obtain ⟨h1, h2⟩ := hI r hgN hr hnh
    have hne2 : had ≠ [] := fun e => by rw [e] at ha; cases ha
    have hla := h2 _ (List.getLast?_eq_some_getLast hne2)
    have hlm : had.getLast hne2 ∈ had := List.getLast_mem hne2
    have hlr : N.last ≠ r := fun e => hnh (by rw [← e, hla]; exact hlm)
    have hc := next_cy (ready_srt hs) (goes_ready hgN) hlr (by rw [hxe]; exact fun e => hne e.symm)
    rw [hxe, hla] at hc
    have hdl := List.dropLast_concat_getLast hne2
    rw [← hdl] at ha h1
    rcases List.mem_append.1 ha with ha | ha
    · exact ((List.pairwise_append.1 h1).2.2 a ha _ (List.mem_singleton.2 rfl)).trans hc
    · rw [List.mem_singleton] at ha
      rw [ha]
      exact hc
  refine ⟨fun r hg hr hnh => ?_, fun hxh r hg hr => ?_⟩
  · have hne : r ≠ x := fun e => hnh (List.mem_append.2 (.inr (List.mem_singleton.2 e)))
    have hnh' : r ∉ had := fun e => hnh (List.mem_append.2 (.inl e))
    refine ⟨List.pairwise_append.2 ⟨(hI r (back r hg hr hne) hr hnh').1, List.pairwise_singleton _ _, fun a ha b hb => ?_⟩, fun h e => ?_⟩
    · rw [List.mem_singleton] at hb
      rw [hb]
      exact main r hg hr hne hnh' a ha
    · rw [List.getLast?_append, List.getLast?_singleton] at e
      injection e with e
      rw [← e]
      exact hl
  · by_cases hr2 : r ∈ had
    · exact hr2
    · exfalso
      have hne : r ≠ x := fun e => hr2 (by rw [e]; exact hxh)
      exact (main r hg hr hne hr2 x hxh).irr
end Go.Proofs.YtjjfglbcikaicaaGreat
namespace Go.Proofs.YtjjfglbcikaicaaGreat
open Go.RowKit
set_option linter.unusedVariables false
set_option linter.unusedSimpArgs false
def RefB (N : NdS) : Prop := ∀ a, a ∈ N.acts → a.ref ≤ N.id * 1000 + (N.spawned : Int)
theorem Oth.refB {x : Int} {N N' : NdS} (h : Oth x N N') (hB : RefB N) (hx : x ≤ N.id * 1000 + (N.spawned : Int)) : RefB N' := fun b hb => by
  have h1 := h.id
  have h2 := h.sp
  by_cases e : b.ref = x
  · rw [h1]; omega
  · rcases h.oth b hb e with ⟨a, ha, e1, _⟩ | hn
    · have := hB a ha
      rw [h1]; omega
    · rw [h1]; omega
theorem putN_oth (x : Int) (N : NdS) (y : LT) : Oth x N (putN N y).1 := by
  unfold putN
  split
  · exact Oth.refl x N
  · split
    · exact replyW_oth (fun M r t => remN_oth x 60 M r true t) N y
    · split
      · exact Oth.refl x N
      · exact deliverW_oth (fun M r t => remN_oth x 60 M r true t) N y
theorem turnN_refB {N : NdS} (h : RefB N) : RefB (turnN N).1 := by
  by_cases h0 : readyN N = []
  · unfold turnN
    rw [if_pos h0]
    exact h
  · refine (turnN_oth h0).1.refB h ?_
    have hm : nextI (readyN N) N.last ∈ readyN N := by
      unfold nextI
      rcases hf : (readyN N).find? (fun n => decide (N.last < n)) with _ | x
      · rcases hl : readyN N with _ | ⟨a, l⟩
        · exact absurd hl h0
        · simp
      · exact List.mem_of_find?_eq_some hf
    unfold readyN at hm
    obtain ⟨a, ha, e⟩ := List.mem_map.1 hm
    have := h a (List.mem_filter.1 ha).1
    rw [e] at this
    exact this
theorem tickN_refB {N : NdS} (h : RefB N) : RefB (tickN N) := fun b hb => by
  obtain ⟨a, ha, rfl⟩ := List.mem_map.1 hb
  have := h a ha
  split <;> exact this
theorem doN_refB {N : NdS} (h : RefB N) (d : Dd) : RefB (doN N d) := by
  unfold doN
  split
  · exact (spawnN_oth (N.id * 1000) N _).refB h (by omega)
  split
  · split
    · exact h
    · exact (putN_oth (N.id * 1000) N _).refB h (by omega)
  split
  · exact turnN_refB h
  split
  · exact tickN_refB h
  · exact h
theorem begunN_refB (L : List (List Stp)) (x : Int) (l : List Dd) : RefB (begunN L x l) := by
  unfold begunN
  have key : ∀ (l : List Dd) (N : NdS), RefB N → RefB (l.foldl doN N) := fun l => by
    induction l with
    | nil => intro N h; exact h
    | cons d l ih => intro N h; exact ih _ (doN_refB h d)
  exact key _ _ (fun a ha => by cases ha)
/-- who is awake, as Knows says it -/
def awakeA (a : ActS) : Bool := canA a || decide (0 < a.box.length) || (a.waits && decide (0 ≤ a.ticks))
end Go.Proofs.YtjjfglbcikaicaaGreat
namespace Go.Proofs.YtjjfglbcikaicaaGreat
open Go.RowKit Go.Maps
set_option linter.unusedVariables false
set_option linter.unusedSimpArgs false
structure KnS where
  ref : Int
  awake : Bool
  refs : List Int
def knC (K : Nat → KnS) (V : Nat → Value) (i : Nat) : List Value := [.int .i64 (K i).ref, .bool (K i).awake, .bool false, V i]
/-- a row of what is known, made by the call -/
structure KnRow (w : World) (base : Nat) (v : Value) (n : Nat) (K : Nat → KnS) (V : Nat → Value) : Prop where
  row : w.ownsRow base 89 4 v n (flatC (knC K V) n)
  each : ∀ i, i < n → OwnI w base (V i) (K i).refs
  outer : ∀ i, i < n → ∀ k, (V i).ownBlock = some k → v.ownBlock ≠ some k
theorem KnRow.nil (w : World) (base : Nat) : KnRow w base (.slice none 0 0) 0 (fun _ => ⟨0, false, []⟩) (fun _ => .slice none 0 0) := ⟨World.ownsRow_nil _ _ _ _, fun i hi => by omega, fun i hi => by omega⟩
theorem KnRow.new {w w' : World} {base : Nat} {v : Value} {n : Nat} {K : Nat → KnS} {V : Nat → Value} (h : KnRow w base v n K V) (hf : Fr (fun _ => False) w w') : KnRow w' base v n K V :=
  ⟨hf.row h.row (fun _ _ h => h), fun i hi => hf.row (h.each i hi) (fun _ _ h => h), h.outer⟩
theorem KnRow.mono {w : World} {base base' : Nat} {v : Value} {n : Nat} {K : Nat → KnS} {V : Nat → Value} (h : KnRow w base v n K V) (hb : base' ≤ base) : KnRow w base' v n K V := ⟨own_mono h.row hb, fun i hi => (h.each i hi).mono hb, h.outer⟩
theorem infoKn : (Tryz.prog.info? 89).map (fun i => (i.zero, i.size, i.bytes)) = some (some (.agg #[.int .i64 0, .bool false, .bool false, .slice none 0 0]), 4, 40) := by kernel_rfl
def upK (K : Nat → KnS) (n : Nat) (k : KnS) : Nat → KnS := fun j => if j = n then k else K j
def upV (V : Nat → Value) (n : Nat) (u : Value) : Nat → Value := fun j => if j = n then u else V j
theorem KnRow.snoc {w w' : World} {o : Obj} {base n : Nat} {v v' u : Value} {K : Nat → KnS} {V : Nat → Value} {k : KnS} (h : KnRow w base v n K V) (hg : (w.alloc o).grownBy w' v.ownBlock) (hr : w'.ownsRow base 89 4 v' (n + 1) (flatC (knC K V) n ++ [.int .i64 k.ref, .bool k.awake, .bool false, u])) (hu : OwnI w base u k.refs)
    (hne : ∀ b, u.ownBlock = some b → v.ownBlock ≠ some b) (hat : v'.ownBlock = v.ownBlock ∨ ∃ q, v'.ownBlock = some q ∧ w.heap.size ≤ q) : KnRow w' base v' (n + 1) (upK K n k) (upV V n u) := by
  have hf : Fr (fun b => v.ownBlock = some b) w w' := ((Fr.refl _ w).alloc o).trans' (Fr.of_grown hg (fun b hb => .inl hb))
  have hold : ∀ b, (∃ i, i < n ∧ (V i).ownBlock = some b) ∨ u.ownBlock = some b → v.ownBlock ≠ some b ∧ b < w.heap.size := fun b hb => by
    rcases hb with ⟨i, hi, hb⟩ | hb
    · exact ⟨h.outer i hi b hb, ((h.each i hi).blk b hb).2⟩
    · exact ⟨hne b hb, (hu.blk b hb).2⟩
  have hnew : ∀ b, (∃ i, i < n ∧ (V i).ownBlock = some b) ∨ u.ownBlock = some b → v'.ownBlock ≠ some b := fun b hb e => by
    obtain ⟨h1, h2⟩ := hold b hb
    rcases hat with e2 | ⟨q, e2, hq⟩
    · exact h1 (e2.symm.trans e)
    · rw [e2] at e
      injection e with e
      omega
  refine ⟨?_, fun i hi => ?_, fun i hi b hb => ?_⟩
  · have e : flatC (knC (upK K n k) (upV V n u)) (n + 1) = flatC (knC K V) n ++ [.int .i64 k.ref, .bool k.awake, .bool false, u] := by
      rw [flatC]
      congr 1
      · exact flatC_congr fun j hj => by
          unfold knC upK upV
          rw [if_neg (by omega), if_neg (by omega)]
      · unfold knC upK upV
        rw [if_pos rfl, if_pos rfl]
    rw [e]
    exact hr
  · by_cases e : i = n
    · subst e
      unfold upK upV
      rw [if_pos rfl, if_pos rfl]
      exact hf.row hu (fun b hb => (hold b (.inr hb)).1)
    · unfold upK upV
      rw [if_neg e, if_neg e]
      exact hf.row (h.each i (by omega)) (fun b hb => (hold b (.inl ⟨i, by omega, hb⟩)).1)
  · by_cases e : i = n
    · subst e
      unfold upV at hb
      rw [if_pos rfl] at hb
      exact hnew b (.inr hb)
    · unfold upV at hb
      rw [if_neg e] at hb
      exact hnew b (.inl ⟨i, by omega, hb⟩)
/-- is x known to an actor? -/
def knowB (N : NdS) (a : ActS) (x : Int) : Bool := a.knows x || anyOf (fun i => refsV (nthL a.box i).says x) a.box.length || decide (x ∈ (rowD N.rows a.ref).ws ++ (rowD N.rows a.ref).ls)
structure KnOk (N : NdS) (a : ActS) (k : KnS) : Prop where
  ref : k.ref = a.ref
  awake : k.awake = awakeA a
  srt : k.refs.Pairwise (· < ·)
  mem : ∀ x, Wf x → (x ∈ k.refs ↔ knowB N a x = true ∧ x ≠ 0 ∧ x ≠ a.ref)
  wf : ∀ x, x ∈ k.refs → Wf x
def KnowsPost (N : NdS) (w : World) (e : Ending) (w' : World) : Prop :=
  ∃ A c K V, e = .returned (.slice A N.acts.length c) ∧ KnRow w' w.heap.size (.slice A N.acts.length c) N.acts.length K V ∧ (∀ i a, N.acts[i]? = some a → KnOk N a (K i)) ∧ Below w.heap.size w w'
theorem mkRefs' : ∀ w, (Instr.makeMap 108 none).run Tryz.prog w = .ok (.map (some w.heap.size)) (w.alloc (.map #[] 0)) := fun w => by kernel_rfl
theorem Fr.old {w w' : World} (h : Fr (fun k => w.heap.size ≤ k) w w') : Fr (fun _ => False) w w' := ⟨h.os, h.tape, h.output, h.size, fun i hi _ => h.block i hi (by show ¬ w.heap.size ≤ i; omega)⟩
theorem rowD_wf {rows : List Li.LR} (h : RowsOk rows) (ref : Int) : ∀ x, x ∈ (rowD rows ref).ws ++ (rowD rows ref).ls → Wf x := fun x hx => by
  unfold rowD at hx
  rcases hr : rowL rows ref with _ | r
  · rw [hr] at hx
    cases hx
  · rw [hr] at hx
    have hm : r ∈ rows := by
      unfold rowL at hr
      exact List.mem_of_find?_eq_some hr
    have h2 := h.wf r hm
    rcases List.mem_append.1 hx with hx | hx
    · exact h2.2.1 x hx
    · exact h2.2.2 x hx
/-- two rows of numbers, one behind the other -/
theorem rdLs_two {w W : World} {v1 v2 : Value} {l1 l2 : List Int} {t : TypeId} (h1 : NumIn w (fun _ => True) v1 l1) (h2 : NumIn w (fun _ => True) v2 l2) (hW : W = w.alloc (.cells #[v1, v2] t)) : RdLs W (fun _ => True) (some ⟨w.heap.size, 0, none⟩) 2 (fun i => if i = 0 then l1 else l2) := fun _ => by
  have hf : Fr (fun _ => False) w W := by rw [hW]; exact (Fr.refl _ _).alloc _
  have key : ∀ {v : Value} {l : List Int}, NumIn w (fun _ => True) v l → ∃ (qA : Option Addr) (qc : Nat), v = .slice qA l.length qc ∧ l.length ≤ qc ∧ qc ≤ 9223372036854775807 ∧ (qA = none → l.length = 0) ∧ RdI W (fun _ => True) qA l := fun {v l} h => by
    obtain ⟨A, c, e, g1, g2, g3⟩ := h.fr hf (fun _ _ h => h) (fun _ h => h)
    refine ⟨A, c, e, g1, g2, fun hA => ?_, fun h0 => ?_⟩
    · by_cases h0 : 0 < l.length
      · obtain ⟨b, off, e2, _⟩ := g3 h0
        rw [hA] at e2
        cases e2
      · omega
    · obtain ⟨b, off, e2, _, hc⟩ := g3 h0
      exact ⟨b, off, e2, World.block_lt_of_cell? W _ (hc 0 h0), trivial, hc⟩
  refine ⟨w.heap.size, 0, rfl, by rw [hW]; simp, trivial, fun i hi => ?_⟩
  have hi2 : i = 0 ∨ i = 1 := by omega
  rcases hi2 with rfl | rfl
  · obtain ⟨qA, qc, e, g⟩ := key h1
    exact ⟨qA, qc, by rw [hW, e]; simp [go_sem], g⟩
  · obtain ⟨qA, qc, e, g⟩ := key h2
    exact ⟨qA, qc, by rw [hW, e]; simp [go_sem], g⟩
/-- one more reference in a row whose slice lies in a struct -/
theorem kn_keep {wn w6 : World} {o : Obj} {qk base n g cap c9 : Nat} {A9 : Option Addr} {R : List Int} {x : Int} {c0 c1 c2 : Value} (hn : n = R.length) (hC : CellsN wn qk [c0, c1, c2, .slice A9 n c9]) (hO : OwnI wn base (.slice A9 n c9) R) (hq : qk < base) (hown : w6.ownsRow base 3 1 (.slice (some ⟨g, 0, none⟩) (n + 1) cap) (n + 1) (encI R ++ [.int .i64 x])) (hg : (wn.alloc o).grownBy w6 (Value.slice A9 n c9).ownBlock) :
    Fr (fun k => k = qk ∨ (Value.slice A9 n c9).ownBlock = some k) wn (w6.setCell ⟨qk, 3, none⟩ (.slice (some ⟨g, 0, none⟩) (n + 1) cap)) ∧ CellsN (w6.setCell ⟨qk, 3, none⟩ (.slice (some ⟨g, 0, none⟩) (n + 1) cap)) qk [c0, c1, c2, .slice (some ⟨g, 0, none⟩) (n + 1) cap] ∧ OwnI (w6.setCell ⟨qk, 3, none⟩ (.slice (some ⟨g, 0, none⟩) (n + 1) cap)) base (.slice (some ⟨g, 0, none⟩) (n + 1) cap) (R ++ [x]) := by
  have hne : ∀ k, (Value.slice A9 n c9).ownBlock = some k → k ≠ qk := fun k hk e => by have := (hO.blk k hk).1; omega
  have hf : Fr (fun k => (Value.slice A9 n c9).ownBlock = some k) wn w6 := ((Fr.refl _ wn).alloc o).trans' (Fr.of_grown hg (fun k hk => .inl hk))
  have hC6 := hC.fr hf (fun h => hne qk h rfl)
  have h0 := hC6.1 0 _ rfl
  have h1 := hC6.1 1 _ rfl
  have h2 := hC6.1 2 _ rfl
  have h3 := hC6.1 3 _ rfl
  refine ⟨(hf.weak (fun k hk => .inr hk)).set (Or.inl (Or.inl rfl)) _, ⟨fun j u hu => ?_, fun o => ?_, ?_⟩, ?_⟩
  · match j, hu with
    | 0, hu => injection hu with hu; subst hu; exact set_other h0 (by decide)
    | 1, hu => injection hu with hu; subst hu; exact set_other h1 (by decide)
    | 2, hu => injection hu with hu; subst hu; exact set_other h2 (by decide)
    | 3, hu => injection hu with hu; subst hu; exact set_this h3
  · exact set_fz hC6.2.1 o
  · have := hC6.2.2
    simpa using this
  · have hr : OwnI w6 base (.slice (some ⟨g, 0, none⟩) (n + 1) cap) (R ++ [x]) := by
      unfold OwnI encI
      rw [List.length_append, List.map_append]
      rw [hn] at hown ⊢
      exact hown
    exact (Fr.setAt (Fr.refl _ w6) _).row hr (fun k hk e => by have := (hr.blk k hk).1; omega)
set_option maxRecDepth 100000 in
theorem wp_range_N {o : Oper} {ops : Array Oper} {Q : Exit → Act → World → Prop} {rest : List Oper} {a : Act} {w : World} (hg : o.guard = none) (m : Operand) (t e : TypeId) (hop : o.op = Op.range t m) (ht : Tryz.prog.underlying t = some (.map 3 e)) (b n : Nat) (g : Int → Option Value)
    (hm : a.eval m = .map (some b)) (hown : OwnM w b n g)
    (hK : ∀ w', RngM w' b w.heap.size g [] → Fr (fun _ => False) w w' → w'.heap.size = w.heap.size + 1 → w'.rangeLeft b w.heap.size = n → wpList Tryz.prog ops Q rest (a.put o.dst (.pointer (some ⟨w.heap.size, 0, none⟩))) w') :
    wpList Tryz.prog ops Q (o :: rest) a w := by
  obtain ⟨D, h1, hs, h2⟩ := hown
  refine wpList_range_own w hg m t hop 3 e lawI ht anyElem b n D hm h1 fun w' r1 r2 r3 => hK w' ⟨n, D, _, _, r1, h2, List.nodup_nil, (fun x hx => by simp at hx), fun x hx => ?_⟩ (Fr.of_grown r2 (fun k hk => by cases hk)) r3 (r1.left_eq.trans hs)
  rw [(h2 x hx).1]
  simp
set_option maxRecDepth 100000 in
set_option maxHeartbeats 16000000 in
theorem knows_any {w : World} {X M : Nat → Prop} {base T p : Nat} {P : Int → Nat} {N : NdS} (h : NodeAt w X M base T p P N) (hT : T ≤ 100000000000) :
    Calls Tryz.prog 38 #[.pointer (some ⟨p, 0, none⟩)] w (KnowsPost N w) := by
  have HRF := Lib.hid (refs_any h)
  have HN := Lib.hid h
  have h60 := h.ok.len
  clear h
  go_enter Tryz.func38, Tryz.ntmps38
  go_wp2_with fail
  refine HRF.out.mono ?_
  rintro e w1 ⟨A1, c1, rfl, hO1, hb1⟩
  have HF1 := Lib.hid (Fr.of_below (S := fun _ => False) hb1)
  have HO1 := Lib.hid hO1
  clear hO1 hb1 HRF
  go_wp2_with fail
  have hz1 := HF1.out.size
  go_loopw [3, 5, 6, 7, 8, 10, 11, 13, 14, 15, 19] (fun v3 _ _ _ _ _ _ _ _ _ v19 wx => ∃ (i : Nat) (K : Nat → KnS) (V : Nat → Value) (A : Option Addr) (c : Nat), i ≤ N.acts.length ∧ v19 = .int .i64 (i : Int) ∧ v3 = .slice A i c ∧ Hid (KnRow wx w1.heap.size (.slice A i c) i K V) ∧ Hid (∀ j a, j < i → N.acts[j]? = some a → KnOk N a (K j)) ∧ Hid (Fr (fun _ => False) w1 wx)) (fun _ _ _ _ _ _ _ _ _ _ v19 _ => N.acts.length - (intOf v19).toNat)
  case atStart => exact ⟨0, _, _, none, 0, Nat.zero_le _, rfl, rfl, Lib.hid (KnRow.nil _ _), Lib.hid (fun j a hj => by omega), Lib.hid (Fr.refl _ _)⟩
  case round =>
    obtain ⟨wo, hwo⟩ : ∃ wo : World, wo = wr := ⟨_, rfl⟩
    subst hwo
    obtain ⟨i, K, V, A, c, hi, rfl, rfl, HKR, HKO, HFo⟩ := hrel
    by_cases hlt : i < N.acts.length
    · obtain ⟨a, ha⟩ : ∃ a, N.acts[i]? = some a := ⟨_, List.getElem?_eq_getElem hlt⟩
      have ham : a ∈ N.acts := List.mem_of_getElem? ha
      have hfind := find_of_mem HN.out.ok.srt ham
      have HNo := Lib.hid (HN.out.new (HF1.out.trans' HFo.out) (fun _ h => h))
      obtain ⟨pa, b, rb, kb, ib, MA, mb, hpa, c3, hA, hMA, hlk, -⟩ := HNo.out.act hfind
      have hl1 := hlk wo (Fr.refl _ _)
      obtain ⟨bR, offR, rfl, hbR, hcR⟩ := (HO1.out.fr HFo.out (fun _ _ h => h)).rd (by rw [refsN_len]; omega)
      have cR := hcR i (by rw [refsN_len]; exact hlt) 0 _ rfl
      have hre : lst (refsN N) i = a.ref := by
        unfold lst refsN
        rw [List.getD_eq_getElem?_getD, List.getElem?_map, ha]
        rfl
      simp only [Nat.mul_one, Nat.add_zero] at cR
      rw [hre] at cR
      have i1 : (0 : Int) ≤ (i : Int) := by omega
      have i2 : (i : Int) < (N.acts.length : Int) := by omega
      have hplt := HNo.out.p_lt
      have hpl := hA.lt.1
      obtain ⟨nk, hkn, hknT⟩ := hA.kn
      have a6 := hA.a6
      obtain ⟨Ab0, cb0, b20, hb10, hb20, hb30⟩ := hA.a2
      have HBX0 := Lib.hid (show ∀ W, Fr (fun k => wo.heap.size ≤ k) wo W → RdL W (fun k => k < wo.heap.size) Ab0 a.box.length (nthL a.box) from fun W hf => hb30.frame hf.size (fun b hb hlt => ⟨hlt, hf.block b hlt (fun h => by omega)⟩))
      have hkb := hA.lt.2
      have HKN := Lib.hid hkn
      have HKN1 := Lib.hid (hkn.fr (S := fun _ => False) ((Fr.refl _ _).alloc (.map #[] 0)) (fun h => h))
      have HMA := Lib.hid (OwnM.made wo)
      have HAG := Lib.hid hA
      have HAM := Lib.hid ham
      have HAI := Lib.hid ha
      have hmk := mkRefs' wo
      clear hb30 hcR hre hA hkn hMA hlk hpa ham ha
      go_wp2_with (first | (at_range; go_loud (refine wp_range_N rfl _ 108 4 rfl und_refs kb nk _ rfl HKN1.out ?_); intro w2 hrng hfr hsz hlf; have HRNG := Lib.hid hrng; have HFR2 := Lib.hid (((Fr.refl (fun _ => False) wo).alloc _).trans' hfr); have HMA2 := Lib.hid (HMA.out.fr hfr (fun h => h)); have HSZ2 := Lib.hid hsz; have HLF := Lib.hid hlf; clear hrng hfr hsz hlf))
      go_frame
      clear hmk
      have hrr : (wo.alloc (.map #[] 0)).heap.size = wo.heap.size + 1 := by simp
      generalize (wo.alloc (.map #[] 0)).heap.size = rr at *
      have HRR := Lib.hid hrr
      have hr1 : wo.heap.size < rr := by omega
      clear hrr
      go_loopw [8] (fun _ wx => ∃ L n2, Hid (RngM wx kb rr (knG a.knows) L) ∧ n2 ≤ L.length ∧ Hid (L.length + wx.rangeLeft kb rr ≤ nk) ∧ Hid (OwnM wx wo.heap.size n2 (knG fun x => decide (x ∈ L))) ∧ Hid (Fr (fun k => k = wo.heap.size ∨ k = rr) w2 wx)) (fun _ wx => wx.rangeLeft kb rr)
      case atStart => exact ⟨[], 0, HRNG, Nat.zero_le _, Lib.hid (by rw [HLF.out]; simp), Lib.hid (HMA2.out.congr fun x _ => by unfold knG; simp), Lib.hid (Fr.refl _ _)⟩
      case round =>
        obtain ⟨w3, hw3⟩ : ∃ w3 : World, w3 = wr := ⟨_, rfl⟩
        subst hw3
        obtain ⟨L, n2, HR, hn2, HLN, HOL, HF3⟩ := hrel
        have hrk : kb ≠ rr := by omega
        have HF03 := Lib.hid (show Fr (fun _ => False) wo w3 from HFR2.out.trans HF3.out (fun k hk => .inr (by omega)))
        have b23 := HF03.out.cell b20 (fun h => h)
        have hpl3 := Nat.lt_of_lt_of_le hpl HF03.out.size
        go_wp2_with (at_next; (refine wp_next_M rfl _ rfl kb rr (knG a.knows) L rfl HR.out ?_ ?_; rotate_left; (intro x v w5 hwx hgx hxL hR5 hlt5 hf5 hs5 hen; obtain rfl : v = .bool true := (by unfold knG at hgx; split at hgx; (· injection hgx with hgx; exact hgx.symm); (· cases hgx)); have HR5 := Lib.hid hR5; have HF5 := Lib.hid hf5; have HLT5 := Lib.hid hlt5; obtain ⟨w6, hrun, ho6, hg6⟩ := OwnM.store und_refs (HOL.out.fr hf5 (fun e => by omega)) (by have := HLN.out; unfold maxLen; omega) x (.bool true) hwx; rw [knG_put] at ho6; have HO6 := Lib.hid ho6; have HG6 := Lib.hid hg6; clear hwx hgx hR5 hf5 hlt5 hs5 ho6 hg6 hxL); rotate_left; (intro hd; have HD := Lib.hid hd; clear hd)))
        · have hkT := HLN.out
          have hnk := hknT
          clear hrk
          go_wp2_with fail
          go_loopw [10, 47] (fun _ v47 wx => ∃ q n3 : Nat, q ≤ a.box.length ∧ v47 = .int .i64 (q : Int) ∧ n3 ≤ nk + 2000 * q ∧ Hid (Fr (fun k => k = wo.heap.size) w3 wx) ∧ Hid (OwnM wx wo.heap.size n3 (knG fun x => decide (x ∈ L) || anyOf (fun i => refsV (nthL a.box i).says x) q))) (fun _ v47 _ => a.box.length - (intOf v47).toNat)
          case atStart => exact ⟨0, n2, Nat.zero_le _, rfl, by omega, Lib.hid (Fr.refl _ _), Lib.hid (HOL.out.congr fun x _ => by simp [anyOf_nil])⟩
          case round =>
            obtain ⟨w4, hw4⟩ : ∃ w4 : World, w4 = wr := ⟨_, rfl⟩
            subst hw4
            obtain ⟨q, n3, hq, rfl, hn3, HF4, HO4⟩ := hrel
            have HF04 := Lib.hid (show Fr (fun k => wo.heap.size ≤ k) wo w4 from (HF03.out.weak (fun _ h => h.elim)).trans' (HF4.out.weak (fun k hk => by omega)))
            by_cases hlt2 : q < a.box.length
            · obtain ⟨bl, ofl, rfl, hbl, hSl, CL, hCL⟩ := HBX0.out w4 HF04.out (by omega)
              obtain ⟨hyl, hyc⟩ := hCL q hlt2
              have hlw := (HNo.out.ok.act a HAM.out).box.2.2 _ (nthL_mem hlt2)
              obtain ⟨y, hy⟩ : ∃ y, nthL a.box q = y := ⟨_, rfl⟩
              rw [hy] at hyl hlw
              obtain ⟨k2, m2, s2, A2, e2, c2, hcs, hyv⟩ := hyl
              rw [hcs] at hyc
              have y0 := hyc 0 _ rfl
              have y1 := hyc 1 _ rfl
              have y2 := hyc 2 _ rfl
              have y3 := hyc 3 _ rfl
              have y4 := hyc 4 _ rfl
              have y5 := hyc 5 _ rfl
              have y6 := hyc 6 _ rfl
              have y7 := hyc 7 _ rfl
              have y8 := hyc 8 _ rfl
              rw [Nat.add_zero] at y0
              obtain ⟨W5, hW5⟩ : ∃ W5, W5 = w4.alloc (.cells #[.int .i64 y.kind, .int .i64 y.frm, .int .i64 y.to, .int .i64 y.num, .string y.text, .int .i64 k2, .int .i64 m2, .string s2, .slice A2 e2 c2] 43) := ⟨_, rfl⟩
              have hf5 : Fr (fun _ => False) w4 W5 := by rw [hW5]; exact (Fr.refl _ _).alloc _
              have hyl5 : y.isL W5 (fun k => k < wo.heap.size) [.int .i64 y.kind, .int .i64 y.frm, .int .i64 y.to, .int .i64 y.num, .string y.text, .int .i64 k2, .int .i64 m2, .string s2, .slice A2 e2 c2] := ⟨k2, m2, s2, A2, e2, c2, rfl, isV_frame hf5.size (fun b hb hlt => ⟨hb, hf5.block b hlt (fun h => h)⟩) hyv⟩
              have HSY := Lib.hid (says_any y _ _ W5 hyl5 (by have := hlw.2.2.2.2.2; omega))
              have HF5 := Lib.hid hf5
              have HW5 := Lib.hid hW5
              have HLW := Lib.hid hlw.2
              have HYE := Lib.hid hy
              have hz45 := hf5.size
              have hmA : wo.heap.size < w4.heap.size := HO4.out.lt
              have q1 : (0 : Int) ≤ (q : Int) := by omega
              have q2 : (q : Int) < (a.box.length : Int) := by omega
              clear hyc hyv hcs hCL hlw hy hf5 hyl5 hW5
              go_wp2_with fail
              rw [← HW5.out]
              refine HSY.out.mono ?_
              rintro e w5 ⟨cs5, rfl, hv5, hb5⟩
              have HF55 := Lib.hid (HF5.out.trans' (Fr.of_below (S := fun _ => False) hb5))
              have hsm := says_many y
              have HRA := Lib.hid (radd_any y.says cs5 _ wo.heap.size n3 (fun x => decide (x ∈ L) || anyOf (fun i => refsV (nthL a.box i).says x) q) w5 hv5 (says_wf HLW.out) (by have := HLW.out.2.2.2.2; omega) (fun k hk => by have h9 : W5.heap.size ≤ k := hk; omega) (HO4.out.fr HF55.out (fun h => h)) (by have := HLW.out.2.2.2.2; have := (HNo.out.ok.act a HAM.out).box.1; omega))
              have HMN := Lib.hid (show y.says.many ≤ 1003 by have := HLW.out.2.2.2.2; omega)
              clear hv5 hb5 hsm HSY
              go_wp2_with fail
              refine HRA.out.mono ?_
              rintro e w6 ⟨rfl, hf6, n6, hn6, ho6⟩
              have HF6 := Lib.hid hf6
              have HO6 := Lib.hid ho6
              have HN6 := Lib.hid (show n6 ≤ nk + 2000 * (q + 1) by have := HMN.out; omega)
              clear hf6 hn6 ho6 HRA
              go_wp2_with fail
              go_roundw
              case rel =>
                refine ⟨q + 1, n6, by omega, by go_num, HN6.out, Lib.hid ((HF4.out.trans' (HF55.out.weak (fun _ h => h.elim))).trans' HF6.out), Lib.hid (HO6.out.congr fun x _ => ?_)⟩
                unfold knG
                simp only [anyOf_up, HYE.out, Bool.or_assoc]
              case measure => simp [intOf]; omega
            · obtain rfl : q = a.box.length := by omega
              have hLk : ∀ x, Wf x → decide (x ∈ L) = a.knows x := fun x hx => by
                obtain ⟨_, _, _, _, _, _, _, h4, _⟩ := HR.out
                rcases hk : a.knows x with _ | _
                · refine decide_eq_false fun hm => ?_
                  have := (h4 x hm).2
                  unfold knG at this
                  rw [hk] at this
                  cases this
                · refine decide_eq_true (HD.out x hx ?_)
                  unfold knG
                  rw [hk]
                  rfl
              have HO5 := Lib.hid (HO4.out.congr (g' := knG fun x => a.knows x || anyOf (fun i => refsV (nthL a.box i).says x) a.box.length) fun x hx => by
                unfold knG
                simp only [hLk x hx])
              have HROW := Lib.hid (row_any HNo.out HF04.out.old a.ref)
              have hn3b : n3 ≤ nk + 2000 * 60 := by have := (HNo.out.ok.act a HAM.out).box.1; omega
              clear hLk HO4 HOL HR HD HLN HRNG HLF
              go_wp2_with fail
              refine HROW.out.mono ?_
              rintro e w5 ⟨v1, v2, rfl, hn1, hn2, hb5⟩
              have HF45 := Lib.hid (Fr.of_below (S := fun _ => False) hb5)
              have HNI := Lib.hid (And.intro hn1 hn2)
              obtain ⟨A6, c6, rfl, -⟩ := hn1
              obtain ⟨A7, c7, rfl, -⟩ := hn2
              have hRO := rowD_ok HNo.out.ok.rows.ok a.ref
              have HRW := Lib.hid (rowD_wf HNo.out.ok.rows a.ref)
              obtain ⟨r, hr⟩ : ∃ r, rowD N.rows a.ref = r := ⟨_, rfl⟩
              rw [hr] at HNI hRO HRW
              have HRE := Lib.hid hr
              have hcat : catTo (fun i => if i = 0 then r.ws else r.ls) 2 = r.ws ++ r.ls := by simp [catTo]
              obtain ⟨wq, hwq⟩ : ∃ wq, wq = w5.alloc (.cells #[.int .i64 r.ref, .slice A6 r.ws.length c6, .slice A7 r.ls.length c7] 132) := ⟨_, rfl⟩
              have hfq : Fr (fun _ => False) w5 wq := by rw [hwq]; exact (Fr.refl _ _).alloc _
              have hzq : wq.heap.size = w5.heap.size + 1 := by rw [hwq]; simp
              have hcc := concat_any (some ⟨wq.heap.size, 0, none⟩) 2 2 (fun i => if i = 0 then r.ws else r.ls) (fun _ => True) (wq.alloc (.cells #[.slice A6 r.ws.length c6, .slice A7 r.ls.length c7] 26)) (Nat.le_refl _) (by omega) (rdLs_two (HNI.out.1.fr hfq (fun _ _ h => h) (fun _ _ => trivial)) (HNI.out.2.fr hfq (fun _ _ h => h) (fun _ _ => trivial)) rfl) (by rw [hcat, List.length_append]; omega)
              rw [hcat] at hcc
              rw [hzq] at hcc
              have HCC := Lib.hid hcc
              have HWQ := Lib.hid hwq
              have HF5q := Lib.hid (HF45.out.trans' (hfq.alloc (.cells #[.slice A6 r.ws.length c6, .slice A7 r.ls.length c7] 26)))
              clear hb5 HROW hcat hcc hr hwq hfq hzq
              go_wp2_with fail
              rw [HRE.out, ← HWQ.out]
              refine HCC.out.mono ?_
              rintro e w6 ⟨v6, rfl, hO6, hb6⟩
              have HF56 := Lib.hid (HF5q.out.trans' (Fr.of_below (S := fun _ => False) hb6))
              obtain ⟨C, hC⟩ : ∃ C, r.ws ++ r.ls = C := ⟨_, rfl⟩
              have hCl : C.length ≤ 200 := by rw [← hC, List.length_append]; omega
              rw [hC] at hO6 HRW
              have HCE := Lib.hid hC
              have HO5lt := Lib.hid (show wo.heap.size < (wq.alloc (.cells #[.slice A6 r.ws.length c6, .slice A7 r.ls.length c7] 26)).heap.size from by have h1 := HO5.out.lt; have h2 := HF5q.out.size; omega)
              obtain ⟨A8, c8, rfl, -, -, -⟩ := own_any hO6
              have HO6 := Lib.hid hO6
              have HOM6 := Lib.hid (HO5.out.fr HF56.out (fun h => h))
              clear hO6 hb6 HCC hC HO5
              go_wp2_with fail
              go_loopw [13, 66] (fun _ v66 wx => ∃ q n7 : Nat, q ≤ C.length ∧ v66 = .int .i64 (q : Int) ∧ n7 ≤ n3 + q ∧ Hid (Fr (fun k => k = wo.heap.size) w6 wx) ∧ Hid (OwnM wx wo.heap.size n7 (knG fun x => (a.knows x || anyOf (fun i => refsV (nthL a.box i).says x) a.box.length) || decide (x ∈ C.take q)))) (fun _ v66 _ => C.length - (intOf v66).toNat)
              case atStart => exact ⟨0, n3, Nat.zero_le _, rfl, by omega, Lib.hid (Fr.refl _ _), Lib.hid (HOM6.out.congr fun x _ => by unfold knG; simp)⟩
              case round =>
                obtain ⟨w7, hw7⟩ : ∃ w7 : World, w7 = wr := ⟨_, rfl⟩
                subst hw7
                obtain ⟨q, n7, hq, rfl, hn7, HF7, HO7⟩ := hrel
                by_cases hlt3 : q < C.length
                · have hown7 := HO6.out.fr HF7.out (fun k hk e => by have := (HO6.out.blk k hk).1; have := HO5lt.out; omega)
                  obtain ⟨bC, offC, rfl, hbC, hcC⟩ := hown7.rd (by omega)
                  have cC := hcC q hlt3 0 _ rfl
                  simp only [Nat.mul_one, Nat.add_zero] at cC
                  have hxC : lst C q ∈ C := by
                    unfold lst
                    rw [List.getD_eq_getElem?_getD, List.getElem?_eq_getElem hlt3]
                    exact List.getElem_mem _
                  have htk : C.take (q + 1) = C.take q ++ [lst C q] := by
                    unfold lst
                    rw [List.take_add_one, List.getD_eq_getElem?_getD, List.getElem?_eq_getElem hlt3]
                    rfl
                  obtain ⟨y, hy⟩ : ∃ y, lst C q = y := ⟨_, rfl⟩
                  rw [hy] at cC hxC htk
                  obtain ⟨w8, hrun, ho8, hg8⟩ := OwnM.store und_refs HO7.out (by unfold maxLen; omega) y (.bool true) (HRW.out y hxC)
                  rw [knG_put] at ho8
                  have HO8 := Lib.hid ho8
                  have HG8 := Lib.hid hg8
                  have HTK := Lib.hid htk
                  have q1 : (0 : Int) ≤ (q : Int) := by omega
                  have q2 : (q : Int) < (C.length : Int) := by omega
                  clear hown7 hcC ho8 hg8 htk hxC hy
                  go_wp2_with fail
                  go_roundw
                  case rel =>
                    refine ⟨q + 1, _, by omega, by go_num, ?_, Lib.hid (HF7.out.trans' (Fr.of_grown HG8.out (fun k hk => .inl (by injection hk with hk; exact hk.symm)))), Lib.hid (HO8.out.congr fun x _ => ?_)⟩
                    · split <;> omega
                    · unfold knG
                      rw [HTK.out]
                      simp [Bool.or_assoc]
                  case measure => simp [intOf]; omega
                · obtain rfl : q = C.length := by omega
                  have HK7 := Lib.hid (HO7.out.congr (g' := knG fun x => knowB N a x) fun x _ => by
                    unfold knG knowB
                    rw [HRE.out, HCE.out, List.take_length])
                  have HF07 := Lib.hid ((HF04.out.trans' (HF56.out.weak (fun _ h => h.elim))).trans' (HF7.out.weak (S2 := fun k => wo.heap.size ≤ k) (fun k hk => by omega))).old
                  have hA7 := HAG.out.fr (X' := X) HF07.out (fun _ h => h.elim) (fun k hk => .inl hk) (fun _ h => h.elim) (Nat.le_refl _) (fun _ _ h => h)
                  have HCAN := Lib.hid ((can_any X base T MA pa b rb kb ib a w7 hA7).mono (R' := fun e w' => e = .returned (.bool (canA a)) ∧ Fr (fun _ => False) w7 w') fun e w' hh => ⟨hh.1, by obtain ⟨_, q, hq⟩ := hh; rw [hq]; exact (Fr.refl _ _).drewN _⟩)
                  have a4 := hA7.a4
                  have a5 := hA7.a5
                  have a2 := HF07.out.cell b20 (fun h => h)
                  have hpl7 := hA7.lt.1
                  have hn7b : n7 ≤ nk + 2000 * 60 + 200 := by omega
                  clear hA7 HO7
                  go_upto_region 22 with (fail)
                  go_cut [14, 45, 46, 47] (fun v14 _ _ _ wx => ∃ qk, v14 = .pointer (some ⟨qk, 0, none⟩) ∧ CellsN wx qk [.int .i64 a.ref, .bool (awakeA a), .bool false, .slice none 0 0] ∧ Hid (Fr (fun _ => False) w7 wx) ∧ w7.heap.size ≤ qk)
                  case first =>
                    have HAW := Lib.hid (show awakeA a = (canA a || decide (0 < a.box.length) || (a.waits && decide (0 ≤ a.ticks))) from rfl)
                    rcases hc : canA a with _ | _
                    · rw [hc] at HCAN HAW
                      go_wp2_with fail
                      refine HCAN.out.mono ?_
                      rintro e w8 ⟨rfl, hf8⟩
                      have HF8 := Lib.hid hf8
                      have d2 := hf8.cell a2 (fun h => h)
                      have d4 := hf8.cell a4 (fun h => h)
                      have d5 := hf8.cell a5 (fun h => h)
                      have hpl8 := Nat.lt_of_lt_of_le hpl7 hf8.size
                      clear hf8 a2 a4 a5
                      by_cases hbl : 0 < a.box.length
                      · have e1 : decide ((0 : Int) < (a.box.length : Int)) = true := decide_eq_true (by omega)
                        rw [decide_eq_true hbl] at HAW
                        go_wp2_with fail
                        go_meet
                        refine ⟨w8.heap.size, rfl, ?_, Lib.hid (HF8.out.alloc _), HF8.out.size⟩
                        rw [HAW.out]
                        exact cellsN_new w8 [_, _, _, _] _
                      · have e1 : decide ((0 : Int) < (a.box.length : Int)) = false := decide_eq_false (by omega)
                        rw [decide_eq_false hbl] at HAW
                        rcases hw : a.waits with _ | _
                        · rw [hw] at d4 HAW
                          clear hw
                          go_wp2_with fail
                          go_meet
                          refine ⟨w8.heap.size, rfl, ?_, Lib.hid (HF8.out.alloc _), HF8.out.size⟩
                          rw [HAW.out]
                          exact cellsN_new w8 [_, _, _, _] _
                        · rw [hw] at d4 HAW
                          clear hw
                          by_cases htk : 0 ≤ a.ticks
                          · have e2 : decide ((0 : Int) ≤ a.ticks) = true := decide_eq_true htk
                            rw [e2] at HAW
                            clear htk
                            go_wp2_with fail
                            go_meet
                            refine ⟨w8.heap.size, rfl, ?_, Lib.hid (HF8.out.alloc _), HF8.out.size⟩
                            rw [HAW.out]
                            exact cellsN_new w8 [_, _, _, _] _
                          · have e2 : decide ((0 : Int) ≤ a.ticks) = false := decide_eq_false htk
                            rw [e2] at HAW
                            clear htk
                            go_wp2_with fail
                            go_meet
                            refine ⟨w8.heap.size, rfl, ?_, Lib.hid (HF8.out.alloc _), HF8.out.size⟩
                            rw [HAW.out]
                            exact cellsN_new w8 [_, _, _, _] _
                    · rw [hc] at HCAN HAW
                      go_wp2_with fail
                      refine HCAN.out.mono ?_
                      rintro e w8 ⟨rfl, hf8⟩
                      have HF8 := Lib.hid hf8
                      clear hf8
                      go_wp2_with fail
                      go_meet
                      refine ⟨w8.heap.size, rfl, ?_, Lib.hid (HF8.out.alloc _), HF8.out.size⟩
                      rw [HAW.out]
                      exact cellsN_new w8 [_, _, _, _] _
                  case rest =>
                    obtain ⟨qk, rfl, hKC, HFc, hqk⟩ := hcut
                    have HKC := Lib.hid hKC
                    have HK8 := Lib.hid (HK7.out.fr HFc.out (fun h => h))
                    have hmA8 := HK8.out.lt
                    have hqlt := hKC.2.2
                    have hmq : wo.heap.size ≠ qk := by have := HK7.out.lt; omega
                    have HF08 := Lib.hid (HF07.out.trans' HFc.out)
                    clear hKC HCAN a2 a4 a5 b23 HO6 HOM6 HRW HBX0
                    go_wp2_with (first | (at_range; go_loud (refine wp_range_N rfl _ 108 4 rfl und_refs wo.heap.size n7 _ rfl HK8.out ?_); intro w9 hrng hfr hsz hlf; have HRNG9 := Lib.hid hrng; have HFR9 := Lib.hid hfr; have HSZ9 := Lib.hid hsz; have HLF9 := Lib.hid hlf; clear hrng hfr hsz hlf))
                    go_frame
                    have hmr : wo.heap.size ≠ wc.heap.size := by omega
                    have hqr : qk ≠ wc.heap.size := by omega
                    go_loopw [15] (fun _ wx => ∃ L2 R A9 c9, Hid (RngM wx wo.heap.size wc.heap.size (knG fun x => knowB N a x) L2) ∧ Hid (L2.length + wx.rangeLeft wo.heap.size wc.heap.size ≤ n7) ∧ R.length ≤ L2.length ∧ Hid (CellsN wx qk [.int .i64 a.ref, .bool (awakeA a), .bool false, .slice A9 R.length c9]) ∧ Hid (OwnI wx w9.heap.size (.slice A9 R.length c9) R) ∧ Hid (∀ x, x ∈ R ↔ x ∈ L2 ∧ x ≠ 0 ∧ x ≠ a.ref) ∧ Hid R.Nodup ∧ Hid (Fr (fun k => k = qk ∨ k = wc.heap.size) w9 wx)) (fun _ wx => wx.rangeLeft wo.heap.size wc.heap.size)
                    case atStart => exact ⟨[], [], none, 0, HRNG9, Lib.hid (by rw [HLF9.out]; simp), Nat.le_refl _, Lib.hid (HKC.out.fr HFR9.out (fun h => h)), Lib.hid (OwnI.nil _ _), Lib.hid (fun x => by simp), Lib.hid List.nodup_nil, Lib.hid (Fr.refl _ _)⟩
                    case round =>
                      obtain ⟨wd, hwd⟩ : ∃ wd : World, wd = wr := ⟨_, rfl⟩
                      subst hwd
                      obtain ⟨L2, R, A9, c9, HR9, HLN9, hRL, HC9, HO9, HRM, HRN, HF9⟩ := hrel
                      have hz9 := HF9.out.size
                      have hs9 := HSZ9.out
                      have hq9 : qk < w9.heap.size := by omega
                      have hm9 : wo.heap.size < w9.heap.size := by omega
                      have hw9 : wc.heap.size < w9.heap.size := by omega
                      clear hs9
                      have k0 := HC9.out.1 0 _ rfl
                      have k1 := HC9.out.1 1 _ rfl
                      have k2 := HC9.out.1 2 _ rfl
                      have k3 := HC9.out.1 3 _ rfl
                      have kq := HC9.out.2.2
                      obtain ⟨i0, hi0, jz0, jz1, jz2⟩ := info_parts infoI
                      have hRb : R.length ≤ 1000000000000 := by have := HLN9.out; omega
                      go_wp2_with (first
                        | (at_next; go_loud (refine wp_next_M rfl _ rfl wo.heap.size wc.heap.size (knG fun x => knowB N a x) L2 rfl HR9.out ?_ ?_; rotate_left; (intro x v wn hwx hgx hxL hRn hltn hfn hsn hen; obtain rfl : v = .bool true := (by unfold knG at hgx; split at hgx; (· injection hgx with hgx; exact hgx.symm); (· cases hgx)); have HRn := Lib.hid hRn; have HFn := Lib.hid hfn; have HLTn := Lib.hid hltn; have HXL := Lib.hid hxL; have HCn := Lib.hid (HC9.out.fr hfn hqr); have n0 := HCn.out.1 0 _ rfl; have n3' := HCn.out.1 3 _ rfl; have nf := HCn.out.2.1; have hqn := HCn.out.2.2; have HOn := Lib.hid (show OwnI wn w9.heap.size (.slice A9 R.length c9) R from hfn.row HO9.out (fun k hk e => by have := (HO9.out.blk k hk).1; omega)); clear hwx hgx hRn hfn hltn hsn hxL; obtain ⟨bx, hbx⟩ : ∃ bx, (x != 0) = bx := ⟨_, rfl⟩; obtain ⟨bz, hbz⟩ : ∃ bz, (x != a.ref) = bz := ⟨_, rfl⟩); rotate_left; (intro hd; have HD9 := Lib.hid hd; clear hd)))
                        | (at_builtin; go_loud (refine wpList_append_lies _ rfl _ _ 26 rfl w9.heap.size 3 i0 (.int .i64 0) 1 8 Tryz.underlying26 hi0 jz0 jz1 jz2 rfl (by decide) (.slice A9 R.length c9) R.length (encI R) rfl (HOn.out.alloc _) ⟨wn.heap.size, 0, none⟩ 1 1 [.int .i64 x] rfl rfl (cell_newL _ _ _ _ rfl) (fun u hu => (by simp at hu; subst hu; rfl)) (by omega) (by unfold maxLen; omega) (by omega) (by simp; have := HFn.out.size; omega) (wn.heap.size + 1) (by simp) ?_; intro g cap w6' hown6 hgrow6 hat6 hlt6; have HO6' := Lib.hid hown6; have HG6' := Lib.hid hgrow6; have HA6' := Lib.hid hat6; have hneb : some qk ≠ (Value.slice A9 R.length c9).ownBlock := (fun e => by have := (HOn.out.blk qk e.symm).1; omega); have x3 := (grown_cell (b := qk) (o := 3) hgrow6 (by simp; omega) hneb).trans ((World.cell?_alloc_lt _ _ ⟨qk, 3, none⟩ hqn).trans n3'); have xf := (grown_frozen (b := qk) (o := 3) hgrow6 (by simp; omega) hneb).trans ((grown_frozen (b := qk) (o := 3) (World.grownBy_alloc wn _ none) hqn (by simp)).trans (nf 3)); clear hown6 hgrow6 hat6)))
                      · refine (sortI_own _ _ R _ HO9.out (by omega)).mono ?_
                        rintro e w10 ⟨rfl, hO10, hg10⟩
                        have hfd : Fr (fun k => w9.heap.size ≤ k) wd w10 := Fr.of_grown hg10 (fun k hk => .inl (HO9.out.blk k hk).1)
                        have hkr := HKR.out.row.lt
                        have HF010 := Lib.hid (show Fr (fun _ => False) wo w10 from by
                          have g1 : Fr (fun k => wo.heap.size ≤ k) wo w9 := (HF08.out.trans' HFR9.out).weak (fun _ h => h.elim)
                          have g0 := HF07.out.size
                          have g00 := HFc.out.size
                          have g2 : Fr (fun k => wo.heap.size ≤ k) w9 w10 := (HF9.out.weak (S2 := fun k => wo.heap.size ≤ k) (fun k hk => by show wo.heap.size ≤ k; omega)).trans' (hfd.weak (fun k hk => by have h9 : w9.heap.size ≤ k := hk; show wo.heap.size ≤ k; omega))
                          exact (g1.trans' g2).old)
                        have HC10 := Lib.hid (HC9.out.fr hfd (fun h => by have h9 : w9.heap.size ≤ qk := h; omega))
                        have HO10 := Lib.hid hO10
                        have HKR10 := Lib.hid (HKR.out.new HF010.out)
                        have z0 := HC10.out.1 0 _ rfl
                        have z1 := HC10.out.1 1 _ rfl
                        have z2 := HC10.out.1 2 _ rfl
                        have z3 := HC10.out.1 3 _ rfl
                        have zq := HC10.out.2.2
                        have HU := Lib.hid (show ∀ b, (Value.slice A9 R.length c9).ownBlock = some b → (Value.slice A i c).ownBlock ≠ some b from fun b hb e => by have h1 := (hO10.blk b hb).1; have h2 := (hkr b e).2; omega)
                        have hzw : w1.heap.size ≤ w10.heap.size := by have := HFo.out.size; have := HF010.out.size; omega
                        have hzw9 : w1.heap.size ≤ w9.heap.size := by have := HFo.out.size; omega
                        obtain ⟨j0, hj0, kz0, kz1, kz2⟩ := info_parts infoKn
                        clear hO10 hg10 hfd hkr k0 k1 k2 k3
                        go_wp2_with (at_builtin; go_loud (refine wpList_append_lies _ rfl _ _ 86 rfl w1.heap.size 89 j0 _ 4 40 Tryz.underlying86 hj0 kz0 kz1 kz2 rfl (by omega) (.slice A i c) i (flatC (knC K V) i) rfl (HKR10.out.row.alloc _) ⟨w10.heap.size, 0, none⟩ 1 1 [.int .i64 a.ref, .bool (awakeA a), .bool false, .slice A9 R.length c9] rfl rfl (cell_newL _ _ _ _ rfl) (fun u hu => (by simp at hu; rcases hu with rfl | rfl | rfl | rfl <;> rfl)) (by omega) (by unfold maxLen; omega) (by omega) (by simp; omega) (w10.heap.size + 1) (by simp) ?_; intro g cap w11 hown11 hgrow11 hat11 hlt11; have HO11 := Lib.hid hown11; have HG11 := Lib.hid hgrow11; have HA11 := Lib.hid hat11; clear hown11 hgrow11 hat11))
                        refine ⟨⟨i + 1, upK K i ⟨a.ref, awakeA a, srt R⟩, upV V i (.slice A9 R.length c9), some ⟨g, 0, none⟩, cap, by omega, by go_num, rfl, Lib.hid ?_, Lib.hid ?_, Lib.hid ?_⟩, ?_⟩
                        · refine KnRow.snoc (k := ⟨a.ref, awakeA a, srt R⟩) HKR10.out HG11.out HO11.out (HO10.out.mono hzw9) HU.out ?_
                          rcases HA11.out with h | h
                          · exact .inl h.symm
                          · exact .inr ⟨g, rfl, by omega⟩
                        · intro j b hj hb
                          by_cases e : j = i
                          · subst e
                            have hba : b = a := by
                              have := HAI.out
                              rw [hb] at this
                              injection this
                            subst hba
                            unfold upK
                            rw [if_pos rfl]
                            refine ⟨rfl, rfl, ?_, fun x hx => ?_, fun x hx => ?_⟩
                            · have hnd : (srt R).Nodup := (srt_perm R).nodup_iff.2 HRN.out
                              exact (List.pairwise_and_iff.2 ⟨srt_pairwise R, hnd⟩).imp (by intro a b h; have h1 := h.1; have h2 := h.2; omega)
                            · rw [(srt_perm R).mem_iff, HRM.out x]
                              refine and_congr_left fun _ => ⟨fun hm => ?_, fun hk => ?_⟩
                              · obtain ⟨_, _, _, _, _, _, _, h4, _⟩ := HR9.out
                                have := (h4 x hm).2
                                unfold knG at this
                                by_cases hk : knowB N b x = true
                                · exact hk
                                · rw [if_neg hk] at this
                                  cases this
                              · refine HD9.out x hx ?_
                                unfold knG
                                rw [if_pos hk]
                                rfl
                            · have hm := (HRM.out x).1 ((srt_perm R).mem_iff.1 hx)
                              obtain ⟨_, _, _, _, _, _, _, h4, _⟩ := HR9.out
                              exact (h4 x hm.1).1
                          · unfold upK
                            rw [if_neg e]
                            exact HKO.out j b (by omega) hb
                        · refine HFo.out.trans (S2 := fun k => w1.heap.size ≤ k) ?_ (fun k hk => .inr hk)
                          exact (HF010.out.weak (fun _ h => h.elim)).trans' (((Fr.refl _ w10).alloc _).trans' (Fr.of_grown HG11.out (fun k hk => .inl ((HKR.out.row.lt k hk).1))))
                        · simp [intOf]; omega
                      all_goals
                        have hlt9 := HLTn.out
                        have hlen9 := HLN9.out
                        have hl1 : (L2 ++ [x]).length = L2.length + 1 := by simp
                        first
                          | (have hkk := kn_keep rfl HCn.out HOn.out hq9 HO6'.out HG6'.out
                             have hR2 := HRn.out.fr hkk.1 (fun h => by rcases h with h | h; exact hmq h; exact absurd (HOn.out.blk _ h).1 (by omega)) (fun h => by rcases h with h | h; exact hqr h.symm; exact absurd (HOn.out.blk _ h).1 (by omega))
                             have hl2 : (R ++ [x]).length = R.length + 1 := by simp
                             rename_i hA hB
                             have hx0 : x ≠ 0 := by rw [hA] at hbx; simpa using hbx
                             have hxr : x ≠ a.ref := by rw [hB] at hbz; simpa using hbz
                             refine ⟨⟨L2 ++ [x], R ++ [x], some ⟨g, 0, none⟩, cap, Lib.hid hR2.1, Lib.hid ?_, ?_, ?_, ?_, Lib.hid ?_, Lib.hid ?_, Lib.hid ?_⟩, ?_⟩
                             · rw [hl1, hR2.2]; omega
                             · rw [hl1, hl2]; omega
                             · rw [hl2]; exact Lib.hid hkk.2.1
                             · rw [hl2]; exact Lib.hid hkk.2.2
                             · intro y
                               rw [List.mem_append, List.mem_append, List.mem_singleton, HRM.out y]
                               constructor
                               · rintro (h | rfl)
                                 · exact ⟨.inl h.1, h.2⟩
                                 · exact ⟨.inr rfl, hx0, hxr⟩
                               · rintro ⟨h | h, h2⟩
                                 · exact .inl ⟨h, h2⟩
                                 · exact .inr h
                             · rw [List.nodup_append]
                               refine ⟨HRN.out, by simp, fun c hc d hd e => ?_⟩
                               rw [List.mem_singleton] at hd
                               exact HXL.out (by rw [← hd, ← e]; exact ((HRM.out c).1 hc).1)
                             · exact (HF9.out.trans' (HFn.out.weak (fun k hk => .inr hk))).trans hkk.1 (fun k hk => by
                                rcases hk with hk | hk
                                · exact .inl (.inl hk)
                                · exact .inr (HOn.out.blk _ hk).1)
                             · rw [hR2.2]; exact hlt9)
                          | (have hskip : ¬ (x ≠ 0 ∧ x ≠ a.ref) := fun h => by
                               have e1 : bx = true := by rw [← hbx]; simpa using h.1
                               have e2 : bz = true := by rw [← hbz]; simpa using h.2
                               simp_all
                             refine ⟨⟨L2 ++ [x], R, A9, c9, HRn, Lib.hid ?_, ?_, HCn, HOn, Lib.hid ?_, HRN, Lib.hid ?_⟩, ?_⟩
                             · rw [hl1]; omega
                             · rw [hl1]; omega
                             · intro y
                               rw [HRM.out y, List.mem_append, List.mem_singleton]
                               constructor
                               · rintro ⟨h, h2⟩
                                 exact ⟨.inl h, h2⟩
                               · rintro ⟨h | h, h2⟩
                                 · exact ⟨h, h2⟩
                                 · rw [h] at h2
                                   exact absurd h2 hskip
                             · exact HF9.out.trans' (HFn.out.weak (fun k hk => .inr hk))
                             · exact hlt9)
        · go_roundw
          case rel =>
            have hk6 := HR5.out.fr (Fr.of_grown (S := fun k => k = wo.heap.size) HG6.out (fun k hk => .inl (by injection hk with hk; exact hk.symm))) (fun e => by have := HKN.out.lt; omega) (by omega)
            refine ⟨L ++ [x], _, Lib.hid hk6.1, ?_, Lib.hid ?_, Lib.hid (HO6.out.congr fun y _ => by unfold knG; simp), Lib.hid ?_⟩
            · rw [List.length_append]
              show _ ≤ L.length + 1
              split <;> omega
            · rw [List.length_append, hk6.2]
              have h1 := HLN.out
              have h2 := HLT5.out
              show L.length + 1 + _ ≤ _
              omega
            · exact (HF3.out.trans' (HF5.out.weak (fun k hk => .inr hk))).trans' (Fr.of_grown HG6.out (fun k hk => .inl (.inl (by injection hk with hk; exact hk.symm))))
          case measure =>
            have hk6 := HR5.out.fr (Fr.of_grown (S := fun k => k = wo.heap.size) HG6.out (fun k hk => .inl (by injection hk with hk; exact hk.symm))) (fun e => by have := HKN.out.lt; omega) (by omega)
            show w6.rangeLeft kb rr < w3.rangeLeft kb rr
            rw [hk6.2]
            exact HLT5.out
    · obtain rfl : i = N.acts.length := by omega
      go_wp2_with fail
      go_ret
      exact ⟨A, c, K, V, rfl, HKR.out.mono hz1, fun i a ha => HKO.out i a (by
        have := (List.getElem?_eq_some_iff.1 ha).1
        omega) ha, (HF1.out.trans' HFo.out).below (fun _ h => h.elim) (Nat.le_refl _)⟩
end Go.Proofs.YtjjfglbcikaicaaGreat
namespace Go.Proofs.YtjjfglbcikaicaaGreat
open Go.RowKit
set_option linter.unusedVariables false
set_option linter.unusedSimpArgs false
/-- a node, who was awake (v8, R), and who had a turn (v, Hs) -/
structure FairAtW (W0 : World) (base p T : Nat) (wr : World) (P : Int → Nat) (X M : Nat → Prop) (N : NdS) (v : Value) (Hs : List Int) (v8 : Value) (R : List Int) (B : Int) : Prop where
  fr : Fr (fun k => W0.heap.size ≤ k) W0 wr
  ml : ∀ k, M k → W0.heap.size ≤ k
  nd : NodeAt wr X M base T p P N
  row : OwnI wr base v Hs
  blk : ∀ k, v.ownBlock = some k → X k ∧ ¬ M k
  row8 : OwnI wr base v8 R
  blk8 : ∀ k, v8.ownBlock = some k → ¬ M k
  apart : ∀ k, v.ownBlock = some k → v8.ownBlock ≠ some k
  b : B ≤ N.id * 1000 + (N.spawned : Int)
section
variable {W0 : World} {base p T : Nat} {w w' : World} {P : Int → Nat} {X M : Nat → Prop} {N : NdS} {v v8 : Value} {Hs R : List Int} {B : Int}
theorem FairAtW.call {P' : Int → Nat} {X' M' : Nat → Prop} {N' : NdS} {T' : Nat} (h : FairAtW W0 base p T w P X M N v Hs v8 R B) (hg : Gr X M w X' M' w') (hn : NodeAt w' X' M' base T' p P' N') (hi : N'.id = N.id) (hs : N.spawned ≤ N'.spawned) : FairAtW W0 base p T' w' P' X' M' N' v Hs v8 R B where
  fr := h.fr.trans (hg.fr.weak (fun k hk => h.ml k hk)) (fun k hk => .inl hk)
  ml k hk := by
    rcases hg.ms k hk with hh | hh
    · exact h.ml k hh
    · have := h.fr.size; omega
  nd := hn
  row := hg.fr.row h.row (fun k hk => (h.blk k hk).2)
  blk k hk := ⟨hg.up k (h.blk k hk).1, fun hm => by
    rcases hg.ms k hm with hh | hh
    · exact (h.blk k hk).2 hh
    · have := (h.row.blk k hk).2; omega⟩
  row8 := hg.fr.row h.row8 (fun k hk => h.blk8 k hk)
  blk8 k hk := fun hm => by
    rcases hg.ms k hm with hh | hh
    · exact h.blk8 k hk hh
    · have := (h.row8.blk k hk).2; omega
  apart := h.apart
  b := by have := h.b; rw [hi]; omega
theorem FairAtW.new (h : FairAtW W0 base p T w P X M N v Hs v8 R B) (hf : Fr (fun _ => False) w w') : FairAtW W0 base p T w' P X M N v Hs v8 R B :=
  h.call (Gr.new hf) (h.nd.new hf (fun _ h => h)) rfl (Nat.le_refl _)
theorem FairAtW.up (h : FairAtW W0 base p T w P X M N v Hs v8 R B) {T' : Nat} (hT : T ≤ T') : FairAtW W0 base p T' w P X M N v Hs v8 R B := ⟨h.fr, h.ml, h.nd.up hT, h.row, h.blk, h.row8, h.blk8, h.apart, h.b⟩
/-- one more has had a turn -/
theorem FairAtW.push {v' : Value} {x : Int} (h : FairAtW W0 base p T w P X M N v Hs v8 R B) (hg : w.grownBy w' v.ownBlock) (hr : OwnI w' base v' (Hs ++ [x])) (hat : v'.ownBlock = v.ownBlock ∨ ∃ H, v'.ownBlock = some H ∧ w.heap.size ≤ H) (hb : W0.heap.size ≤ base) : FairAtW W0 base p T w' P (XW X w w') M N v' (Hs ++ [x]) v8 R B where
  fr := h.fr.trans (Fr.of_grown (S := fun k => W0.heap.size ≤ k) hg (fun k hk => .inl (by have := (h.row.blk k hk).1; omega))) (fun k hk => .inl hk)
  ml := h.ml
  nd := h.nd.fr (Fr.of_grown (S := fun k => v.ownBlock = some k) hg (fun k hk => .inl hk)) (fun k hk => ⟨(h.blk k hk).1, (h.row.blk k hk).1⟩) (fun k hk => .inl hk) (fun k hk => hk) (fun k hk e => (h.blk k e).2 hk)
  row := hr
  blk k hk := by
    rcases hat with e | ⟨H, e, hH⟩
    · rw [e] at hk
      exact ⟨.inl (h.blk k hk).1, (h.blk k hk).2⟩
    · rw [e] at hk
      injection hk with hk
      subst hk
      refine ⟨.inr ⟨hH, (hr.blk H (by rw [e])).2⟩, fun hm => ?_⟩
      have := h.nd.xlt H (h.nd.2.2.1 H hm).1
      omega
  row8 := (Fr.of_grown (S := fun k => v.ownBlock = some k) hg (fun k hk => .inl hk)).row h.row8 (fun k hk e => h.apart k e hk)
  blk8 := h.blk8
  apart k hk := by
    rcases hat with e | ⟨H, e, hH⟩
    · rw [e] at hk
      exact h.apart k hk
    · rw [e] at hk
      injection hk with hk
      subst hk
      intro e8
      have := (h.row8.blk H e8).2
      omega
  b := h.b
end
/-- what a turn answers -/
theorem turn_answers (N : NdS) : (readyN N = [] ∧ (turnN N).2.2 = 4) ∨ (readyN N ≠ [] ∧ (turnN N).2.2 = 0) := by
  by_cases h : readyN N = []
  · exact .inl ⟨h, by unfold turnN; rw [if_pos h]⟩
  · exact .inr ⟨h, by unfold turnN; rw [if_neg h]⟩
theorem canL_goes {N : NdS} {r : Int} (h : canL N r = true) : goesN N r := by
  unfold canL at h
  rcases ha : N.find r with _ | a
  · rw [ha] at h
    cases h
  · rw [ha] at h
    obtain ⟨hm, hr⟩ := find_some ha
    exact ⟨a, hm, hr, by simpa using h⟩
end Go.Proofs.YtjjfglbcikaicaaGreat
namespace Go.Proofs.YtjjfglbcikaicaaGreat
open Go.RowKit Go.ChangeShapes Go.WideShapes
set_option linter.unusedVariables false
set_option linter.unusedSimpArgs false
set_option maxRecDepth 100000 in
set_option maxHeartbeats 16000000 in
theorem nodeFair_walk {H : Type} {enc : TypeId × Value → H} (W : World) (base : Nat) (v0 v1 v2 : Value) {d0 d1 d2 : DataW H} {p0 p1 p2 : List MemPlace}
    (k0 : Value.okWide Tryz.prog W .any base 25 v0) (k1 : Value.okWide Tryz.prog W .any base 3 v1) (k2 : Value.okWide Tryz.prog W .any base 56 v2)
    (h0 : DataW.Trod enc Tryz.prog W 0 (fun _ => true) true 25 v0 d0 p0) (h1 : DataW.Trod enc Tryz.prog W 0 (fun _ => true) true 3 v1 d1 p1) (h2 : DataW.Trod enc Tryz.prog W 0 (fun _ => true) true 56 v2 d2 p2) :
    Calls Tryz.prog 11 #[v0, v1, v2] W fun e W' => e = .returned (.bool true) ∧ Below W.heap.size W W' := by
  obtain ⟨L, hL⟩ := open_scripts k0 h0
  obtain ⟨f, rfl, _, _, _⟩ := open_int Tryz.underlying3 k1 h1
  obtain ⟨l, hl⟩ := open_deeds k2 h2
  have HTM := Lib.hid (tame_scr v0 L W hL)
  have HLW := Lib.hid (tameL_wf hL.wf)
  obtain ⟨A0, c0, rfl, _⟩ := hL
  have HDD := Lib.hid hl
  obtain ⟨A2, c2, rfl, _⟩ := hl
  clear k0 k1 k2 h0 h1 h2
  go_enter Tryz.func11, Tryz.ntmps11
  go_wp2_with fail
  refine HTM.out.mono ?_
  rintro e w1 ⟨A1, c1, rfl, hs1, hb1⟩
  have HB1 := Lib.hid hb1
  have HBG := Lib.hid (begun_any (fun _ => False) w1.heap.size A1 c1 (tameL L) f _ l w1 (fun _ h => h.elim) (Nat.le_refl _) hs1 HLW.out (HDD.out.below hb1))
  have HRB := Lib.hid (begunN_refB (tameL L) f l)
  clear hs1 hb1 HTM
  go_wp2_with fail
  refine HBG.out.mono ?_
  rintro e w2 ⟨p, P, X, M, rfl, hf2, -, hX, hM, hn2, -⟩
  have HF2 := Lib.hid hf2
  have HN2 := Lib.hid hn2
  have HM := Lib.hid hM
  clear hf2 hn2 hX hM HBG HDD
  generalize begunN (tameL L) f l = N at *
  go_wp2_with fail
  refine (nodes_any w2).mono ?_
  rintro e w3 ⟨rfl, hb3⟩
  have HN3 := Lib.hid (HN2.out.below hb3)
  have HB3 := Lib.hid hb3
  clear hb3 HN2
  have hsz1 := HB1.out.size
  have hbz : w1.heap.size ≤ w3.heap.size := by have := HF2.out.size; have := HB3.out.size; omega
  have HG3 := Lib.hid (show Fr (fun k => W.heap.size ≤ k) W w3 from ((Fr.of_below HB1.out).trans (HF2.out.weak (S2 := fun _ => False) (fun _ h => h)) (fun k hk => hk.elim)).trans (Fr.of_below (S := fun _ => False) HB3.out) (fun k hk => hk.elim))
  have HML := Lib.hid (show ∀ k, M k → W.heap.size ≤ k from fun k hk => by have := HM.out k hk; omega)
  have HKN := Lib.hid (knows_any HN3.out (by omega))
  have h60 := HN3.out.ok.len
  clear HB1 HF2 HB3 HM
  go_wp2_with fail
  refine HKN.out.mono ?_
  rintro e w4 ⟨A4, c4, K, V, rfl, hk4, hk5, hb4⟩
  have HK4 := Lib.hid hk4
  have HK5 := Lib.hid hk5
  have HF4 := Lib.hid (Fr.of_below (S := fun _ => False) hb4)
  clear hk4 hk5 hb4 HKN
  go_wp2_with fail
  go_loopw [8, 10, 30] (fun v8 _ v30 wx => ∃ (i : Nat) (R : List Int) (A8 : Option Addr) (c8 : Nat), i ≤ N.acts.length ∧ v30 = .int .i64 (i : Int) ∧ v8 = .slice A8 R.length c8 ∧ R.length ≤ i ∧ Hid (OwnI wx w4.heap.size (.slice A8 R.length c8) R) ∧ Hid (∀ x, x ∈ R → x ≤ N.id * 1000 + (N.spawned : Int)) ∧ Hid (Fr (fun _ => False) w4 wx)) (fun _ _ v30 _ => N.acts.length - (intOf v30).toNat)
  case atStart => exact ⟨0, [], none, 0, Nat.zero_le _, rfl, rfl, Nat.le_refl _, Lib.hid (OwnI.nil _ _), Lib.hid (fun x hx => by cases hx), Lib.hid (Fr.refl _ _)⟩
  case round =>
    obtain ⟨w5, hw5⟩ : ∃ w5 : World, w5 = wr := ⟨_, rfl⟩
    subst hw5
    obtain ⟨i, R, A8, c8, hi, rfl, rfl, hRi, HO5, HRX, HF5⟩ := hrel
    by_cases hlt : i < N.acts.length
    · obtain ⟨a, ha⟩ : ∃ a, N.acts[i]? = some a := ⟨_, List.getElem?_eq_getElem hlt⟩
      have hko := HK5.out i a ha
      have hle : a.ref ≤ N.id * 1000 + (N.spawned : Int) := HRB.out a (List.mem_of_getElem? ha)
      have hkr := HK4.out.new HF5.out
      obtain ⟨Av, cv, hv, -, -, -⟩ := own_any (hkr.each i hlt)
      obtain ⟨gk, capk, hvk, hgk1, hgk2, _, _⟩ := own_form hkr.row (by omega)
      injection hvk with e1 _ e3
      subst e1 e3
      have y0 : w5.cell? ⟨gk, i * 4, none⟩ = some (.int .i64 a.ref) := by
        have h := own_cellC hkr.row (fun k => rfl) hlt (j := 0) (by omega)
        rw [Nat.add_zero] at h
        rw [h]
        show some (Value.int .i64 (K i).ref) = _
        rw [hko.ref]
      have y1 : w5.cell? ⟨gk, i * 4 + 1, none⟩ = some (.bool (K i).awake) := own_cellC hkr.row (fun k => rfl) hlt (j := 1) (by omega)
      have y2 : w5.cell? ⟨gk, i * 4 + 2, none⟩ = some (.bool false) := own_cellC hkr.row (fun k => rfl) hlt (j := 2) (by omega)
      have y3 : w5.cell? ⟨gk, i * 4 + 3, none⟩ = some (.slice Av (K i).refs.length cv) := by
        have h := own_cellC hkr.row (fun k => rfl) hlt (j := 3) (by omega)
        rw [h, ← hv]
        rfl
      have i1 : (0 : Int) ≤ (i : Int) := by omega
      have i2 : (i : Int) < (N.acts.length : Int) := by omega
      have hzk : w4.heap.size ≤ w5.heap.size := HF5.out.size
      obtain ⟨aw, haw⟩ : ∃ b, (K i).awake = b := ⟨_, rfl⟩
      rw [haw] at y1
      have HLE := Lib.hid hle
      clear hkr hko hv hle ha haw
      rcases aw with _ | _
      · go_wp2_with fail
        go_roundw
        case rel => exact ⟨i + 1, R, A8, c8, by omega, by go_num, rfl, by omega, Lib.hid (HO5.out.alloc _), HRX, Lib.hid (HF5.out.alloc _)⟩
        case measure => simp [intOf]; omega
      · have hon := HO5.out.alloc (.cells #[.int .i64 a.ref, .bool true, .bool false, .slice Av (K i).refs.length cv] 89)
        have HON := Lib.hid hon
        have hzn : (w5.alloc (.cells #[.int .i64 a.ref, .bool true, .bool false, .slice Av (K i).refs.length cv] 89)).heap.size = w5.heap.size + 1 := by simp
        clear hon
        go_wp2_with (at_builtin; go_loud (refine wpList_append_int rfl _ _ rfl w4.heap.size (.slice A8 R.length c8) R rfl HON.out (w5.heap.size + 1) hzn a.ref rfl (by omega) (by omega) ?_; intro v6 w6 hO6 hg6 hat6; have HO6 := Lib.hid hO6; have HG6 := Lib.hid hg6; clear hO6 hg6 hat6))
        obtain ⟨A6, c6, hv6, -, -, -⟩ := own_any HO6.out
        have hl6 : (R ++ [a.ref]).length = R.length + 1 := by simp
        have hO6 := HO6.out
        rw [hv6] at hO6
        refine ⟨⟨i + 1, R ++ [a.ref], A6, c6, by omega, by go_num, hv6, by omega, Lib.hid hO6, Lib.hid (fun x hx => ?_), Lib.hid ?_⟩, by simp [intOf]; omega⟩
        · rcases List.mem_append.1 hx with hx | hx
          · exact HRX.out x hx
          · rw [List.mem_singleton] at hx
            rw [hx]
            exact HLE.out
        · refine HF5.out.trans (S2 := fun k => w4.heap.size ≤ k) ?_ (fun k hk => .inr hk)
          exact ((Fr.refl _ w5).alloc _).trans' (Fr.of_grown HG6.out (fun k hk => .inl (HO5.out.blk k hk).1))
    · obtain rfl : i = N.acts.length := by omega
      have hz34 := HF4.out.size
      have hz45 := HF5.out.size
      obtain ⟨B, hB⟩ : ∃ B : Int, N.id * 1000 + (N.spawned : Int) = B := ⟨_, rfl⟩
      rw [hB] at HRX
      have HS5 := Lib.hid (show FairAtW W w1.heap.size p 10000000000 w5 P X M N (.slice none 0 0) [] (.slice A8 R.length c8) R B from
        ⟨(HG3.out.trans HF4.out (fun _ h => h.elim)).trans HF5.out (fun _ h => h.elim), fun k hk => HML.out k hk, (HN3.out.new HF4.out (fun _ h => h)).new HF5.out (fun _ h => h), OwnI.nil _ _, (fun k hk => by cases hk), HO5.out.mono (by omega), fun k hk hm => by
          have h1 := (HO5.out.blk k hk).1
          have h2 := HN3.out.xlt k (HN3.out.2.2.1 k hm).1
          omega, (fun k hk => by cases hk), by rw [hB]; omega⟩)
      have HI5 := Lib.hid (FairI.nil N B)
      clear HN3 HK4 HK5 HF4 HF5 HO5 hB HML HG3 HRB hlt hi
      go_wp2_with fail
      go_loopw [6, 11, 12, 13, 15, 44] (fun _ v11 _ _ _ v44 wx => ∃ (c : Nat) (Pc : Int → Nat) (Xc Mc : Nat → Prop) (Nc : NdS) (Hs : List Int) (Ah : Option Addr) (ch : Nat), c ≤ R.length ∧ v44 = .int .i64 (c : Int) ∧ v11 = .slice Ah Hs.length ch ∧ Hs.length ≤ c ∧ Hid (FairAtW W w1.heap.size p (10000000000 + 60000000 * c) wx Pc Xc Mc Nc (.slice Ah Hs.length ch) Hs (.slice A8 R.length c8) R B) ∧ Hid (FairI Nc B Hs)) (fun _ _ _ _ _ v44 _ => R.length - (intOf v44).toNat)
      case atStart => exact ⟨0, P, X, M, N, [], none, 0, Nat.zero_le _, rfl, rfl, Nat.le_refl _, HS5, HI5⟩
      case round =>
        obtain ⟨w6, hw6⟩ : ∃ w6 : World, w6 = wr := ⟨_, rfl⟩
        subst hw6
        obtain ⟨c, Pc, Xc, Mc, Nc, Hs, Ah, ch, hc, rfl, rfl, hHc, HSc, HIc⟩ := hrel
        have HEND := Lib.hid (show ∀ (w' : World), Fr (fun k => W.heap.size ≤ k) W w' → Below W.heap.size W w' from fun w' hf => hf.below (fun k hk => hk) (Nat.le_refl _))
        by_cases hlt2 : c < R.length
        · have HT := Lib.hid (turn_any HSc.out.nd (by omega))
          rcases turn_answers Nc with ⟨h0, he⟩ | ⟨h0, he⟩
          · unfold TurnPost at HT
            rw [he] at HT
            go_wp2_with fail
            refine HT.out.mono ?_
            rintro e w7 ⟨rfl, P7, X7, M7, hg7, hn7⟩
            have HF7 := Lib.hid (hg7.fr.weak (S2 := fun k => W.heap.size ≤ k) (fun k hk => HSc.out.ml k hk))
            clear hg7 hn7 HT
            go_wp2_with fail
            refine bodyPost_ret (v := .bool true) (by simp [results, Tryz.results11, go_sem]) rfl ⟨rfl, ?_⟩
            exact HEND.out _ (HSc.out.fr.trans HF7.out (fun k hk => .inl hk))
          · have hfs := fair_step HSc.out.nd.ok.srt HSc.out.b HIc.out h0
            have hoth := (turnN_oth h0).1
            unfold TurnPost at HT
            rw [he] at HT
            obtain ⟨N7, hN7⟩ : ∃ N7, (turnN Nc).1 = N7 := ⟨_, rfl⟩
            obtain ⟨x, hx⟩ : ∃ x, (turnN Nc).2.1 = x := ⟨_, rfl⟩
            rw [hN7] at hoth
            rw [hN7, hx] at HT hfs
            have HFS := Lib.hid hfs
            have HOT := Lib.hid (And.intro hoth.id hoth.sp)
            clear h0 he hfs hoth hN7 hx
            go_wp2_with fail
            refine HT.out.mono ?_
            rintro e w7 ⟨rfl, P7, X7, M7, hg7, hn7⟩
            have HS7 := Lib.hid (HSc.out.call hg7 hn7 HOT.out.1 HOT.out.2)
            have HCT := Lib.hid (containsI_any Ah Hs.length ch (lst Hs) x w7 (by omega) HS7.out.row.rd)
            rw [any_lst] at HCT
            clear hg7 hn7 HT
            by_cases hxm : x ∈ Hs
            · rw [decide_eq_true hxm] at HCT
              have HRF := Lib.hid (refs_any HS7.out.nd)
              have HGO := Lib.hid (HFS.out.2 hxm)
              have h607 := HS7.out.nd.ok.len
              go_wp2_with fail
              refine HCT.out.mono ?_
              rintro e w8 ⟨rfl, rfl⟩
              go_wp2_with fail
              refine HRF.out.mono ?_
              rintro e w8 ⟨A9, c9, rfl, hO9, hb9⟩
              have HO9 := Lib.hid hO9
              have HF9 := Lib.hid (Fr.of_below (S := fun _ => False) hb9)
              clear hO9 hb9 HRF
              go_wp2_with fail
              go_loopw [6, 15, 59] (fun _ _ v59 wx => ∃ j : Nat, j ≤ N7.acts.length ∧ v59 = .int .i64 (j : Int) ∧ Hid (Fr (fun _ => False) w8 wx)) (fun _ _ v59 _ => N7.acts.length - (intOf v59).toNat)
              case atStart => exact ⟨0, Nat.zero_le _, rfl, Lib.hid (Fr.refl _ _)⟩
              case round =>
                obtain ⟨wj, hwj⟩ : ∃ wj : World, wj = wr := ⟨_, rfl⟩
                subst hwj
                obtain ⟨j, hj, rfl, HFj⟩ := hrel
                have HSj := Lib.hid ((HS7.out.new HF9.out).new HFj.out)
                by_cases hlt3 : j < N7.acts.length
                · obtain ⟨bR, offR, rfl, hbR, hcR⟩ := (HO9.out.fr HFj.out (fun _ _ h => h)).rd (by rw [refsN_len]; omega)
                  have cR := hcR j (by rw [refsN_len]; exact hlt3) 0 _ rfl
                  simp only [Nat.mul_one, Nat.add_zero] at cR
                  have hmem : lst (refsN N7) j ∈ refsN N7 := by
                    unfold lst
                    rw [List.getD_eq_getElem?_getD, List.getElem?_eq_getElem (by rw [refsN_len]; exact hlt3)]
                    exact List.getElem_mem _
                  obtain ⟨r, hr⟩ : ∃ r, lst (refsN N7) j = r := ⟨_, rfl⟩
                  rw [hr] at cR hmem
                  have hrw : Wf r := by
                    obtain ⟨a, ha, e⟩ := has_iff.1 (mem_refsN.1 hmem)
                    rw [← e]
                    exact (HSj.out.nd.ok.act a ha).ref
                  have j1 : (0 : Int) ≤ (j : Int) := by omega
                  have j2 : (j : Int) < (N7.acts.length : Int) := by omega
                  have HC8 := Lib.hid (containsI_any A8 R.length c8 (lst R) r wj (by omega) HSj.out.row8.rd)
                  rw [any_lst] at HC8
                  have HCH := Lib.hid (containsI_any Ah Hs.length ch (lst Hs) r wj (by omega) HSj.out.row.rd)
                  rw [any_lst] at HCH
                  have HCN := Lib.hid (canL_any HSj.out.nd hrw)
                  have HRM := Lib.hid (fun (h1 : r ∈ R) (h2 : r ∉ Hs) => show canL N7 r = false from by
                    rcases hc : canL N7 r with _ | _
                    · rfl
                    · exact absurd (HGO.out r (canL_goes hc) (HRX.out r h1)) h2)
                  clear hcR hmem hr hrw
                  by_cases hm8 : r ∈ R
                  · rw [decide_eq_true hm8] at HC8
                    by_cases hmh : r ∈ Hs
                    · rw [decide_eq_true hmh] at HCH
                      clear hm8 hmh
                      go_wp2_with fail
                      refine HC8.out.mono ?_
                      rintro e w9 ⟨rfl, rfl⟩
                      go_wp2_with fail
                      refine HCH.out.mono ?_
                      rintro e w9 ⟨rfl, rfl⟩
                      go_wp2_with fail
                      go_roundw
                      case rel => exact ⟨j + 1, by omega, by go_num, HFj⟩
                      case measure => simp [intOf]; omega
                    · rw [decide_eq_false hmh] at HCH
                      rw [HRM.out hm8 hmh] at HCN
                      clear hm8 hmh
                      go_wp2_with fail
                      refine HC8.out.mono ?_
                      rintro e w9 ⟨rfl, rfl⟩
                      go_wp2_with fail
                      refine HCH.out.mono ?_
                      rintro e w9 ⟨rfl, rfl⟩
                      go_wp2_with fail
                      refine HCN.out.mono ?_
                      rintro e w10 ⟨rfl, hb10⟩
                      have HF10 := Lib.hid (HFj.out.trans' (Fr.of_below (S := fun _ => False) hb10))
                      clear hb10
                      go_wp2_with fail
                      go_roundw
                      case rel => exact ⟨j + 1, by omega, by go_num, HF10⟩
                      case measure => simp [intOf]; omega
                  · rw [decide_eq_false hm8] at HC8
                    clear hm8
                    go_wp2_with fail
                    refine HC8.out.mono ?_
                    rintro e w9 ⟨rfl, rfl⟩
                    go_wp2_with fail
                    go_roundw
                    case rel => exact ⟨j + 1, by omega, by go_num, HFj⟩
                    case measure => simp [intOf]; omega
                · obtain rfl : j = N7.acts.length := by omega
                  go_wp2_with fail
                  refine bodyPost_ret (v := .bool true) (by simp [results, Tryz.results11, go_sem]) rfl ⟨rfl, ?_⟩
                  exact HEND.out _ HSj.out.fr
            · rw [decide_eq_false hxm] at HCT
              go_wp2_with fail
              refine HCT.out.mono ?_
              rintro e w8 ⟨rfl, rfl⟩
              have hbw8 : w1.heap.size ≤ w7.heap.size := by have := HS7.out.nd.pM.2.2; have := HS7.out.nd.p_lt; omega
              have HRW := Lib.hid HS7.out.row
              go_wp2_with (at_builtin; go_loud (refine wpList_append_int rfl _ _ rfl w1.heap.size (.slice Ah Hs.length ch) Hs rfl HRW.out w7.heap.size rfl x rfl (by omega) hbw8 ?_; intro v9 w9 hO9 hg9 hat9; have HO9 := Lib.hid hO9; have HG9 := Lib.hid hg9; have HA9 := Lib.hid hat9; clear hO9 hg9 hat9))
              have HS9 := Lib.hid (HS7.out.push HG9.out HO9.out (by rcases HA9.out with h | h; exact .inl h; exact .inr ⟨_, h, by omega⟩) (by omega))
              obtain ⟨A9, c9, hv9, -, -, -⟩ := own_any HO9.out
              have hl9 : (Hs ++ [x]).length = Hs.length + 1 := by simp
              have hs9 := HS9.out
              rw [hv9] at hs9
              exact ⟨⟨c + 1, P7, _, M7, N7, Hs ++ [x], A9, c9, by omega, by go_num, hv9, by omega, Lib.hid (hs9.up (T' := 10000000000 + 60000000 * (c + 1)) (by omega)), Lib.hid HFS.out.1⟩, by simp [intOf]; omega⟩
        · obtain rfl : c = R.length := by omega
          go_wp2_with fail
          refine bodyPost_ret (v := .bool true) (by simp [results, Tryz.results11, go_sem]) rfl ⟨rfl, ?_⟩
          exact HEND.out _ HSc.out.fr
end Go.Proofs.YtjjfglbcikaicaaGreat
