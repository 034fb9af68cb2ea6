/- copies.Parcel: a parcel is copied whole. Node.Save, Node.row. Node.Parcel. Copies of values and letters: their arguments lie in rows that may be written. Box and copies.Parcel: the letters' arguments lie in rows that may be written. Node.Parcel: the letters' arguments lie in rows that may be written. One that waits for a letter that does not come: its box keeps all letters in order. Where the law NodeOrder stands: a node with one that waits, and the letters that were sent. What the law NodeOwn needs of letters that were copied. A slice of letters, and a value, as arguments. The walk of the law NodeOwn. -/
import Derived.Test.YtjjfglbcikaicaaGreatMJ
import Derived.Test.YtjjfglbcikaicaaGreatMF
import Derived.Test.YtjjfglbcikaicaaGreatME
import Derived.BigRegion
import Derived.Test.YtjjfglbcikaicaaGreatMB
import Derived.Test.YtjjfglbcikaicaaGreatFr
import Derived.Test.YtjjfglbcikaicaaGreatMS
import Derived.Test.YtjjfglbcikaicaaGreatOpen
import Derived.Test.YtjjfglbcikaicaaGreatMD
import Derived.Test.YtjjfglbcikaicaaGreatMI
import Derived.Test.YtjjfglbcikaicaaGreatBase
namespace Go.Proofs.YtjjfglbcikaicaaGreat
open Go.RowKit
set_option linter.unusedVariables false
set_option linter.unusedSimpArgs false
/-- a parcel as data -/
structure PclS where
  ref : Int
  nm : ByteArray
  st : Nat → VT
  box : List LT
  ticks : Int
  ws : List Int
  ls : List Int
/-- a parcel whose rows lie in blocks of S -/
def PclAt (w : World) (S : Nat → Prop) (p : PclS) (cs : List Value) : Prop :=
  ∃ A2 c2 A4 c4 v6 v7, cs = [.int .i64 p.ref, .string p.nm, .slice A2 2 c2, .slice none 0 0, .slice A4 p.box.length c4, .int .i64 p.ticks, v6, v7] ∧ 2 ≤ c2 ∧ c2 ≤ 9223372036854775807 ∧ p.box.length ≤ c4 ∧ c4 ≤ 9223372036854775807 ∧
    RdV w S A2 2 p.st ∧ RdL w S A4 p.box.length (nthL p.box) ∧ NumIn w S v6 p.ws ∧ NumIn w S v7 p.ls
theorem PclAt.fr {w w' : World} {S S' D : Nat → Prop} {p : PclS} {cs : List Value} (h : PclAt w S p cs) (hf : Fr D w w') (hS : ∀ k, S k → ¬ D k) (hS' : ∀ k, S k → S' k) : PclAt w' S' p cs := by
  obtain ⟨A2, c2, A4, c4, v6, v7, e, h1, h2, h3, h4, h5, h6, h7, h8⟩ := h
  exact ⟨A2, c2, A4, c4, v6, v7, e, h1, h2, h3, h4, h5.frame hf.size (fun b hb hlt => ⟨hS' b hb, hf.block b hlt (hS b hb)⟩), h6.frame hf.size (fun b hb hlt => ⟨hS' b hb, hf.block b hlt (hS b hb)⟩), h7.fr hf hS hS', h8.fr hf hS hS'⟩
/-- eight cells of block q -/
def CellsN (w : World) (q : Nat) (cs : List Value) : Prop := (∀ j u, cs[j]? = some u → w.cell? ⟨q, j, none⟩ = some u) ∧ (∀ o, w.frozen? ⟨q, o, none⟩ = false) ∧ q < w.heap.size
theorem CellsN.fr {w w' : World} {D : Nat → Prop} {q : Nat} {cs : List Value} (h : CellsN w q cs) (hf : Fr D w w') (hq : ¬ D q) : CellsN w' q cs :=
  ⟨fun j u hu => hf.cell (h.1 j u hu) hq, fun o => (hf.frozen h.2.2 hq).trans (h.2.1 o), Nat.lt_of_lt_of_le h.2.2 hf.size⟩
theorem cells8_of {w : World} {q : Nat} {c0 c1 c2 c3 c4 c5 c6 c7 : Value} (h0 : w.cell? ⟨q, 0, none⟩ = some c0) (h1 : w.cell? ⟨q, 1, none⟩ = some c1) (h2 : w.cell? ⟨q, 2, none⟩ = some c2) (h3 : w.cell? ⟨q, 3, none⟩ = some c3) (h4 : w.cell? ⟨q, 4, none⟩ = some c4) (h5 : w.cell? ⟨q, 5, none⟩ = some c5) (h6 : w.cell? ⟨q, 6, none⟩ = some c6) (h7 : w.cell? ⟨q, 7, none⟩ = some c7) (hf : ∀ o, w.frozen? ⟨q, o, none⟩ = false) : CellsN w q [c0, c1, c2, c3, c4, c5, c6, c7] := ⟨fun j u hu => by
  match j, hu with
  | 0, hu => injection hu with hu; subst hu; exact h0
  | 1, hu => injection hu with hu; subst hu; exact h1
  | 2, hu => injection hu with hu; subst hu; exact h2
  | 3, hu => injection hu with hu; subst hu; exact h3
  | 4, hu => injection hu with hu; subst hu; exact h4
  | 5, hu => injection hu with hu; subst hu; exact h5
  | 6, hu => injection hu with hu; subst hu; exact h6
  | 7, hu => injection hu with hu; subst hu; exact h7, hf, World.block_lt_of_cell? w _ h0⟩
theorem cellsN_new (w : World) (cs : List Value) (t : TypeId) : CellsN (w.alloc (.cells cs.toArray t)) w.heap.size cs := ⟨fun j u hu => by
  have h := cell_newL w cs t _ rfl j u hu
  rw [Addr.add_lit, Nat.zero_add] at h
  exact h, fun o => by simp [go_sem], by simp⟩
theorem numIn_rd {w : World} {B : Nat → Prop} {v : Value} {l : List Int} (h : NumIn w B v l) : ∃ A c, v = .slice A l.length c ∧ l.length ≤ c ∧ c ≤ 9223372036854775807 ∧ (A = none → l.length = 0) ∧ Rd w 1 (tmC (lst l)) A l.length := by
  obtain ⟨A, c, e, h1, h2, h3⟩ := h
  refine ⟨A, c, e, h1, h2, fun hA => ?_, fun h0 => ?_⟩
  · by_cases h0 : 0 < l.length
    · obtain ⟨b, off, e2, _⟩ := h3 h0
      rw [hA] at e2
      cases e2
    · omega
  obtain ⟨b, off, e2, hb, hc⟩ := h3 h0
  refine ⟨b, off, e2, World.block_lt_of_cell? w _ (hc 0 h0), fun k hk j u hu => ?_⟩
  have hj : j < 1 := (List.getElem?_eq_some_iff.1 hu).1
  obtain rfl : j = 0 := by omega
  have : u = .int .i64 (lst l k) := by simpa [tmC] using hu.symm
  subst this
  rw [Nat.mul_one, Nat.add_zero]
  exact hc k hk
theorem LRow.lower {w : World} {base base' n : Nat} {v : Value} {C : Nat → List Value} {arg : Nat → LT} (h : LRow w base v n C arg) (hb : base' ≤ base) : LRow w base' v n C arg :=
  ⟨own_mono h.row hb, h.len, fun i hi => isL_frame (Nat.le_refl _) (fun b hs _ => ⟨⟨by omega, hs.2⟩, rfl⟩) (h.each i hi)⟩
theorem LRow.fr2 {D : Nat → Prop} {w w' : World} {base n : Nat} {v : Value} {C : Nat → List Value} {arg : Nat → LT} (h : LRow w base v n C arg) (hf : Fr D w w') (hr : ∀ k, D k → k < base) : LRow w' base v n C arg := h.fr hf hr
theorem RdV.fr3 {D : Nat → Prop} {w w' : World} {B n : Nat} {A : Option Addr} {arg : Nat → VT} (h : RdV w (fun b => B ≤ b) A n arg) (hf : Fr D w w') (hD : ∀ k, D k → k < B) : RdV w' (fun b => B ≤ b) A n arg := h.frame hf.size (fun b hb hlt => ⟨hb, hf.block b hlt (fun hd => by have := hD b hd; have h9 : B ≤ b := hb; omega)⟩)
theorem RdV.lower {w : World} {B B' n : Nat} {A : Option Addr} {arg : Nat → VT} (h : RdV w (fun b => B ≤ b) A n arg) (hb : B' ≤ B) : RdV w (fun b => B' ≤ b) A n arg := h.frame (Nat.le_refl _) (fun b hs _ => ⟨by have h9 : B ≤ b := hs; show B' ≤ b; omega, rfl⟩)
theorem rd_new {w W W9 : World} {sz n : Nat} {g : Nat → List Value} {A : Option Addr} (h : Rd w sz g A n) (hb : Below w.heap.size w W) (hf : Fr (fun k => k = w.heap.size) W W9) : Rd W9 sz g A n := fun h0 => by
  obtain ⟨b, off, e, hlt, hc⟩ := h h0
  exact ⟨b, off, e, Nat.lt_of_lt_of_le hlt (Nat.le_trans hb.size hf.size), fun k hk j u hu => hf.cell ((hb.cell (p := ⟨b, _, none⟩) hlt).trans (hc k hk j u hu)) (by omega)⟩
def PclPost (p : PclS) (w : World) (v : Value → Value) (e : Ending) (w' : World) : Prop :=
  ∃ A2 c2 A4 c4 C A6 c6 A7 c7, e = .returned (v (.agg #[.int .i64 p.ref, .string p.nm, .slice A2 2 c2, .slice none 0 0, .slice A4 p.box.length c4, .int .i64 p.ticks, .slice A6 p.ws.length c6, .slice A7 p.ls.length c7])) ∧ 2 ≤ c2 ∧ c2 ≤ 9223372036854775807 ∧
    RdV w' (fun b => w.heap.size ≤ b) A2 2 p.st ∧ LRow w' w.heap.size (.slice A4 p.box.length c4) p.box.length C (nthL p.box) ∧ OwnI w' w.heap.size (.slice A6 p.ws.length c6) p.ws ∧ OwnI w' w.heap.size (.slice A7 p.ls.length c7) p.ls ∧ Below w.heap.size w w'
set_option maxRecDepth 100000 in
set_option maxHeartbeats 8000000 in
theorem pcopy_any (p : PclS) (cs : List Value) (S : Nat → Prop) (w : World) (H : PclAt w S p cs) (hb : p.box.length ≤ 60) (hm : ∀ i, i < p.box.length → (nthL p.box i).val.many ≤ 4194304) (hs : ∀ i, i < 2 → (p.st i).many ≤ 4194304) (hw : p.ws.length ≤ 1000000) (hl : p.ls.length ≤ 1000000) :
    Calls Tryz.prog 65 #[.agg cs.toArray] w (PclPost p w id) := by
  obtain ⟨A2, c2, A4, c4, v6, v7, rfl, h1, h2, h3, h4, h5, h6, h7, h8⟩ := H
  obtain ⟨A6, c6, rfl, i1, i2, hn6, R6⟩ := numIn_rd h7
  obtain ⟨A7, c7, rfl, i3, i4, hn7, R7⟩ := numIn_rd h8
  obtain ⟨W, hW⟩ : ∃ W, W = (w.alloc (.cells #[.int .i64 p.ref, .string p.nm, .slice A2 2 c2, .slice none 0 0, .slice A4 p.box.length c4, .int .i64 p.ticks, .slice A6 p.ws.length c6, .slice A7 p.ls.length c7] 82)).alloc (.cells #[.int .i64 0, .string ⟨#[]⟩, .slice none 0 0, .slice none 0 0, .slice none 0 0, .int .i64 0, .slice none 0 0, .slice none 0 0] 82) := ⟨_, rfl⟩
  have HF := Lib.hid (show Below w.heap.size w W by rw [hW]; exact ((Below.refl _ _).alloc (Nat.le_refl _) _).alloc (by simp) _)
  have HZ := Lib.hid (show CellsN W w.heap.size [.int .i64 p.ref, .string p.nm, .slice A2 2 c2, .slice none 0 0, .slice A4 p.box.length c4, .int .i64 p.ticks, .slice A6 p.ws.length c6, .slice A7 p.ls.length c7] by rw [hW]; exact (cellsN_new w _ _).fr (D := fun _ => False) ((Fr.refl _ _).alloc _) (fun h => h))
  have HY := Lib.hid (show CellsN W (w.heap.size + 1) [.int .i64 0, .string ⟨#[]⟩, .slice none 0 0, .slice none 0 0, .slice none 0 0, .int .i64 0, .slice none 0 0, .slice none 0 0] by rw [hW]; simpa using cellsN_new (w.alloc (.cells #[.int .i64 p.ref, .string p.nm, .slice A2 2 c2, .slice none 0 0, .slice A4 p.box.length c4, .int .i64 p.ticks, .slice A6 p.ws.length c6, .slice A7 p.ls.length c7] 82)) [.int .i64 0, .string ⟨#[]⟩, .slice none 0 0, .slice none 0 0, .slice none 0 0, .int .i64 0, .slice none 0 0, .slice none 0 0] 82)
  have hz : w.heap.size + 2 = W.heap.size := by rw [hW]; simp
  have HV := Lib.hid (h5.frame HF.out.size (fun b hb hlt => ⟨hb, HF.out.block b hlt⟩))
  have HL := Lib.hid (h6.frame HF.out.size (fun b hb hlt => ⟨hb, HF.out.block b hlt⟩))
  have H6 := Lib.hid R6
  have H7 := Lib.hid R7
  have HVD := Lib.hid (show RdV W.drew S A2 2 p.st from RdV.frame h5 HF.out.size (fun b hb hlt => ⟨hb, HF.out.block b hlt⟩))
  have HA6 := Lib.hid (show A6 = none → p.ws.length = 0 from hn6)
  have HA7 := Lib.hid (show A7 = none → p.ls.length = 0 from hn7)
  have HWW := Lib.hid hW
  have HM := Lib.hid hm
  have HS := Lib.hid hs
  have z0 := HZ.out.1 0 _ rfl
  have z1 := HZ.out.1 1 _ rfl
  have z2 := HZ.out.1 2 _ rfl
  have z3 := HZ.out.1 3 _ rfl
  have z4 := HZ.out.1 4 _ rfl
  have z5 := HZ.out.1 5 _ rfl
  have z6 := HZ.out.1 6 _ rfl
  have z7 := HZ.out.1 7 _ rfl
  have zf := HZ.out.2.1
  clear h5 h6 h7 h8 R6 R7 hW hm hs hn6 hn7
  go_enter Tryz.func65, Tryz.ntmps65
  go_wp2_with fail
  rw [← HWW.out]
  go_cut [] (fun wx => ∃ A2' c2' A4' c4' C4, CellsN wx w.heap.size [.int .i64 p.ref, .string p.nm, .slice A2' 2 c2', .slice none 0 0, .slice A4' p.box.length c4', .int .i64 p.ticks, .slice A6 p.ws.length c6, .slice A7 p.ls.length c7] ∧ CellsN wx (w.heap.size + 1) [.int .i64 0, .string ⟨#[]⟩, .slice none 0 0, .slice none 0 0, .slice none 0 0, .int .i64 0, .slice none 0 0, .slice none 0 0] ∧ Hid (2 ≤ c2' ∧ c2' ≤ 9223372036854775807 ∧ RdV wx (fun b => W.heap.size ≤ b) A2' 2 p.st) ∧ Hid (LRow wx W.heap.size (.slice A4' p.box.length c4') p.box.length C4 (nthL p.box)) ∧ Hid (Fr (fun k => k = w.heap.size) W wx))
  case first =>
    go_region_with (first
      | (go_at_call 97; refine (saved_any p.nm 2 c2 A2 p.st S _ (by omega) HVD.out HS.out).mono ?_; rintro e w1 ⟨A2', c2', rfl, q1, q2, q3, hb1⟩; have HB1 := Lib.hid (show Fr (fun _ => False) W w1 from Fr.of_below (below_drew' hb1)); have HQ := Lib.hid (And.intro q1 (And.intro q2 q3)); have HZ1 := Lib.hid (HZ.out.fr HB1.out (fun h => h)); have HY1 := Lib.hid (HY.out.fr HB1.out (fun h => h)); have x4 := HZ1.out.1 4 _ rfl; clear q1 q2 q3 hb1)
      | (go_at_call 55; refine (leach_any p.box.length c4 A4 (nthL p.box) S w1 (by omega) (HL.out.frame HB1.out.size (fun b hb hlt => ⟨hb, HB1.out.block b hlt (fun h => h)⟩)) HM.out).mono ?_; rintro e w2 ⟨v2, C2, rfl, hown2, hCl2, hCv2, hb2⟩; obtain ⟨A4', c4', hv2, _, _, _⟩ := own_any hown2; subst hv2; have HLR := Lib.hid (LRow.mk (arg := nthL p.box) hown2 hCl2 hCv2); have HB2 := Lib.hid (show Fr (fun _ => False) w1 w2 from Fr.of_below hb2); have HZ2 := Lib.hid (HZ1.out.fr HB2.out (fun h => h)); have HY2 := Lib.hid (HY1.out.fr HB2.out (fun h => h)); have u0 := HZ2.out.1 0 _ rfl; have u1 := HZ2.out.1 1 _ rfl; have u2 := HZ2.out.1 2 _ rfl; have u3 := HZ2.out.1 3 _ rfl; have u4 := HZ2.out.1 4 _ rfl; have u5 := HZ2.out.1 5 _ rfl; have u6 := HZ2.out.1 6 _ rfl; have u7 := HZ2.out.1 7 _ rfl; have uf := HZ2.out.2.1; clear hown2 hCl2 hCv2 hb2))
    all_goals
      go_wp2_with fail
      go_meet
      refine ⟨A2', c2', A4', c4', C2, cells8_of (by simp [go_sem, u0]) (by simp [go_sem, u1]) (by simp [go_sem, u2]) (by simp [go_sem, u3]) (by simp [go_sem, u4]) (by simp [go_sem, u5]) (by simp [go_sem, u6]) (by simp [go_sem, u7]) (fun o => by simp [go_sem, uf]), HY2.out.fr (D := fun k => k = w.heap.size) ?_ (by omega), Lib.hid ⟨HQ.out.1, HQ.out.2.1, ?_⟩, Lib.hid ?_, Lib.hid ?_⟩
      · iterate 4 (refine Fr.setAt ?_ _)
        exact Fr.refl _ _
      · refine RdV.fr3 (D := fun k => k = w.heap.size) HQ.out.2.2 ?_ (fun k hk => by omega)
        iterate 4 (refine Fr.setAt ?_ _)
        exact HB2.out.weak (fun _ h => h.elim)
      · refine LRow.fr (S := fun k => k = w.heap.size) (HLR.out.lower (base' := W.heap.size) HB1.out.size) ?_ (fun k hk => by omega)
        iterate 4 (refine Fr.setAt ?_ _)
        exact Fr.refl _ _
      · iterate 4 (refine Fr.setAt ?_ _)
        exact (HB1.out.trans' HB2.out).weak (fun _ h => h.elim)
  case rest =>
    obtain ⟨A2', c2', A4', c4', C4, HZc, HYc, HQ, HLR, HFC⟩ := hcut
    generalize wc = wc1 at *
    have HZC := Lib.hid HZc
    have HYC := Lib.hid HYc
    clear HZc HYc z0 z1 z2 z3 z4 z5 z6 z7 zf HZ HY HV HL HVD
    have z0 := HZC.out.1 0 _ rfl
    have z1 := HZC.out.1 1 _ rfl
    have z2 := HZC.out.1 2 _ rfl
    have z3 := HZC.out.1 3 _ rfl
    have z4 := HZC.out.1 4 _ rfl
    have z5 := HZC.out.1 5 _ rfl
    have z6 := HZC.out.1 6 _ rfl
    have z7 := HZC.out.1 7 _ rfl
    have zf := HZC.out.2.1
    have HR6 := Lib.hid (fun W9 (hf : Fr (fun k => k = w.heap.size) W W9) => show Rd W9 1 (tmC (lst p.ws)) A6 p.ws.length from rd_new H6.out HF.out hf)
    have HR7 := Lib.hid (fun W9 (hf : Fr (fun k => k = w.heap.size) W W9) => show Rd W9 1 (tmC (lst p.ls)) A7 p.ls.length from rd_new H7.out HF.out hf)
    go_wp2_with fail
    go_cut [] (fun wx => ∃ A6' c6' A7' c7', CellsN wx w.heap.size [.int .i64 p.ref, .string p.nm, .slice A2' 2 c2', .slice none 0 0, .slice A4' p.box.length c4', .int .i64 p.ticks, .slice A6' p.ws.length c6', .slice A7' p.ls.length c7'] ∧ CellsN wx (w.heap.size + 1) [.int .i64 0, .string ⟨#[]⟩, .slice none 0 0, .slice none 0 0, .slice none 0 0, .int .i64 0, .slice none 0 0, .slice none 0 0] ∧ Hid (OwnI wx W.heap.size (.slice A6' p.ws.length c6') p.ws) ∧ Hid (OwnI wx W.heap.size (.slice A7' p.ls.length c7') p.ls) ∧ Hid (Fr (fun k => k = w.heap.size) wc1 wx))
    case first =>
      go_region_with (first
        | (go_at_call_of 98 (Value.slice A6 p.ws.length c6); refine (cloneInt A6 p.ws.length c6 (tmC (lst p.ws)) _ (HR6.out _ HFC.out.drew) (tmC_len _) (tmC_one _) HA6.out (by omega)).mono ?_; rintro e w1 ⟨v1, rfl, hown1, hb1⟩; rw [flatC_lst] at hown1; have HO1 := Lib.hid (show OwnI w1 wc1.heap.size v1 p.ws from hown1); obtain ⟨A6', c6', hv1, _, _, _⟩ := own_any hown1; subst hv1; have HB1 := Lib.hid (show Fr (fun _ => False) wc1 w1 from Fr.of_below (below_drew' hb1)); have HZ1 := Lib.hid (HZC.out.fr HB1.out (fun h => h)); have HY1 := Lib.hid (HYC.out.fr HB1.out (fun h => h)); have x7 := HZ1.out.1 7 _ rfl; clear hown1 hb1)
        | (go_at_call_of 98 (Value.slice A7 p.ls.length c7); refine (cloneInt A7 p.ls.length c7 (tmC (lst p.ls)) _ (HR7.out _ (HFC.out.trans' (HB1.out.weak (fun _ h => h.elim)))) (tmC_len _) (tmC_one _) HA7.out (by omega)).mono ?_; rintro e w2 ⟨v2, rfl, hown2, hb2⟩; rw [flatC_lst] at hown2; have HO2 := Lib.hid (show OwnI w2 w1.heap.size v2 p.ls from hown2); obtain ⟨A7', c7', hv2, _, _, _⟩ := own_any hown2; subst hv2; have HB2 := Lib.hid (show Fr (fun _ => False) w1 w2 from Fr.of_below hb2); have HZ2 := Lib.hid (HZ1.out.fr HB2.out (fun h => h)); have HY2 := Lib.hid (HY1.out.fr HB2.out (fun h => h)); have u0 := HZ2.out.1 0 _ rfl; have u1 := HZ2.out.1 1 _ rfl; have u2 := HZ2.out.1 2 _ rfl; have u3 := HZ2.out.1 3 _ rfl; have u4 := HZ2.out.1 4 _ rfl; have u5 := HZ2.out.1 5 _ rfl; have u6 := HZ2.out.1 6 _ rfl; have u7 := HZ2.out.1 7 _ rfl; have uf := HZ2.out.2.1; clear hown2 hb2))
      all_goals
        go_wp2_with fail
        go_meet
        refine ⟨A6', c6', A7', c7', cells8_of (by simp [go_sem, u0]) (by simp [go_sem, u1]) (by simp [go_sem, u2]) (by simp [go_sem, u3]) (by simp [go_sem, u4]) (by simp [go_sem, u5]) (by simp [go_sem, u6]) (by simp [go_sem, u7]) (fun o => by simp [go_sem, uf]), HY2.out.fr (D := fun k => k = w.heap.size) ?_ (by omega), Lib.hid ?_, Lib.hid ?_, Lib.hid ?_⟩
        · iterate 2 (refine Fr.setAt ?_ _)
          exact Fr.refl _ _
        · refine OwnI.fr (S := fun k => k = w.heap.size) (OwnI.mono (base' := W.heap.size) HO1.out (by have := HFC.out.size; omega)) ?_ (fun k hk hq => by have := (HO1.out.blk k hk).1; have := HFC.out.size; omega)
          iterate 2 (refine Fr.setAt ?_ _)
          exact HB2.out.weak (fun _ h => h.elim)
        · refine OwnI.fr (S := fun k => k = w.heap.size) (OwnI.mono (base' := W.heap.size) HO2.out (by have := HFC.out.size; have := HB1.out.size; omega)) ?_ (fun k hk hq => by have := (HO2.out.blk k hk).1; have := HFC.out.size; have := HB1.out.size; omega)
          iterate 2 (refine Fr.setAt ?_ _)
          exact Fr.refl _ _
        · iterate 2 (refine Fr.setAt ?_ _)
          exact (HB1.out.trans' HB2.out).weak (fun _ h => h.elim)
    case rest =>
      obtain ⟨A6', c6', A7', c7', HZd, HYd, HO6, HO7, HFD⟩ := hcut
      have HZD := Lib.hid HZd
      have HYD := Lib.hid HYd
      clear HZd HYd z0 z1 z2 z3 z4 z5 z6 z7 zf HZC HYC HR6 HR7
      have z0 := HZD.out.1 0 _ rfl
      have z1 := HZD.out.1 1 _ rfl
      have z2 := HZD.out.1 2 _ rfl
      have z3 := HZD.out.1 3 _ rfl
      have z4 := HZD.out.1 4 _ rfl
      have z5 := HZD.out.1 5 _ rfl
      have z6 := HZD.out.1 6 _ rfl
      have z7 := HZD.out.1 7 _ rfl
      have y0 := HYD.out.1 0 _ rfl
      have y1 := HYD.out.1 1 _ rfl
      have y2 := HYD.out.1 2 _ rfl
      have y3 := HYD.out.1 3 _ rfl
      have y4 := HYD.out.1 4 _ rfl
      have y5 := HYD.out.1 5 _ rfl
      have y6 := HYD.out.1 6 _ rfl
      have y7 := HYD.out.1 7 _ rfl
      have yf := HYD.out.2.1
      go_wp2_with fail
      refine bodyPost_ret (v := .agg #[.int .i64 p.ref, .string p.nm, .slice A2' 2 c2', .slice none 0 0, .slice A4' p.box.length c4', .int .i64 p.ticks, .slice A6' p.ws.length c6', .slice A7' p.ls.length c7']) (by simp [results, Tryz.results65, go_sem, y0, y1, y2, y3, y4, y5, y6, y7]) rfl ⟨A2', c2', A4', c4', C4, A6', c6', A7', c7', rfl, HQ.out.1, HQ.out.2.1, ?_, ?_, ?_, ?_, ?_⟩
      · refine RdV.lower (B := W.heap.size) (RdV.fr3 (D := fun k => k = w.heap.size ∨ k = w.heap.size + 1) HQ.out.2.2 (Fr.trans' (w1 := wc) (HFD.out.weak (fun _ h => .inl h)) (Fr.weak (S := fun k => k = w.heap.size + 1) ?_ (fun _ h => .inr h))) (fun k hk => by omega)) (by omega)
        iterate 8 (refine Fr.setAt ?_ _)
        exact Fr.refl _ _
      · refine LRow.lower (base := W.heap.size) (LRow.fr (S := fun k => k = w.heap.size ∨ k = w.heap.size + 1) HLR.out (Fr.trans' (w1 := wc) (HFD.out.weak (fun _ h => .inl h)) (Fr.weak (S := fun k => k = w.heap.size + 1) ?_ (fun _ h => .inr h))) (fun k hk => by omega)) (by omega)
        iterate 8 (refine Fr.setAt ?_ _)
        exact Fr.refl _ _
      · refine OwnI.fr (S := fun k => k = w.heap.size + 1) (OwnI.mono (base' := w.heap.size) HO6.out (by omega)) ?_ (fun k hk hq => by have := (HO6.out.blk k hk).1; omega)
        iterate 8 (refine Fr.setAt ?_ _)
        exact Fr.refl _ _
      · refine OwnI.fr (S := fun k => k = w.heap.size + 1) (OwnI.mono (base' := w.heap.size) HO7.out (by omega)) ?_ (fun k hk hq => by have := (HO7.out.blk k hk).1; omega)
        iterate 8 (refine Fr.setAt ?_ _)
        exact Fr.refl _ _
      · iterate 8 (refine below_set ?_ (by omega))
        have h1 : Fr (fun k => w.heap.size ≤ k) w W := Fr.of_below HF.out
        exact (h1.trans' ((HFC.out.trans' HFD.out).weak (fun k hk => by omega))).below (fun k hk => hk) (Nat.le_refl _)
end Go.Proofs.YtjjfglbcikaicaaGreat
namespace Go.Proofs.YtjjfglbcikaicaaGreat
open Go.RowKit Go.Maps
set_option linter.unusedVariables false
set_option linter.unusedSimpArgs false
theorem row1_cl : Li.EqRow 96 := fun a A B n m c d ref b w hb hc => by
  go_enter Tryz.func96, Tryz.ntmps96
  go_wp2_with fail
  go_ret
  exact ⟨rfl, (Below.refl _ _).alloc (Nat.le_refl _) _⟩
theorem row1_enters : Enters Tryz.prog 96 := fun _ _ => by kernel_rfl
/-- the row of one; an empty one, if there is none -/
def rowD (rows : List Li.LR) (ref : Int) : Li.LR := (rowL rows ref).getD dRow
theorem numIn_sl {w : World} {v : Value} {l : List Int} (h : Li.Sl w v l) : NumIn w (fun b => b < w.heap.size) v l := by
  obtain ⟨A, c, e, h1, h2, h3, h4⟩ := h
  refine ⟨A, c, e, h1, h2, fun h0 => ?_⟩
  obtain ⟨b, off, e2, hb, hc⟩ := h4 h0
  refine ⟨b, off, e2, hb, fun j hj => ?_⟩
  have := hc j hj 0 _ rfl
  rw [Nat.mul_one, Nat.add_zero] at this
  exact this
def RowPost (B : Nat → Prop) (r : Li.LR) (w : World) (e : Ending) (w' : World) : Prop := ∃ v1 v2, e = .returned (.agg #[.int .i64 r.ref, v1, v2]) ∧ NumIn w' B v1 r.ws ∧ NumIn w' B v2 r.ls ∧ Below w.heap.size w w'
theorem numIn_nil' (w : World) (B : Nat → Prop) : NumIn w B (.slice none 0 0) [] := ⟨none, 0, rfl, Nat.le_refl _, by omega, fun h => by simp at h⟩
set_option maxRecDepth 100000 in
set_option maxHeartbeats 4000000 in
theorem row_any {w0 w : World} {X M : Nat → Prop} {base T p : Nat} {P : Int → Nat} {N : NdS} (h : NodeAt w0 X M base T p P N) (hf0 : Fr (fun _ => False) w0 w) (ref : Int) :
    Calls Tryz.prog 64 #[.pointer (some ⟨p, 0, none⟩), .int .i64 ref] w (RowPost (fun b => b < w0.heap.size) (rowD N.rows ref) w) := by
  have hok := h.ok.rows.ok
  obtain ⟨_, _, _, mb, hb, MA, ob, sb, h4, _⟩ := h
  obtain ⟨v4, c40, hr⟩ := h4.c4
  have c4 := hf0.cell c40 (fun h => h)
  have hplt := World.block_lt_of_cell? w _ c4
  obtain ⟨A, c, vw, vl, rfl, k1, k2, hR0⟩ := hr.form
  have HR0 := Lib.hid hR0
  have hR := hR0.below (hf0.below (fun _ h => h.elim) (Nat.le_refl _))
  have HF0 := Lib.hid hf0
  have HR := Lib.hid hR
  have h100 := hok.1
  obtain ⟨W, hW⟩ : ∃ W, W = (w.alloc (.cells #[.int .i64 ref] 3)).alloc (.cells #[.int .i64 0, .slice none 0 0, .slice none 0 0] 132) := ⟨_, rfl⟩
  have hbz : Below w.heap.size w W := by rw [hW]; exact ((Below.refl _ _).alloc (Nat.le_refl _) _).alloc (by simp) _
  have HB := Lib.hid hbz
  have HZ := Lib.hid (show CellsN W (w.heap.size + 1) [.int .i64 0, .slice none 0 0, .slice none 0 0] by rw [hW]; simpa using cellsN_new (w.alloc (.cells #[.int .i64 ref] 3)) [.int .i64 0, .slice none 0 0, .slice none 0 0] 132)
  have HIX := Lib.hid (Li.ix_row 96 row1_enters row1_cl A N.rows.length c (rowF N.rows) vw vl ref w.heap.size W (by omega) (hR.below hbz) (by rw [hW]; simp; omega) (by rw [hW]; simp [go_sem]))
  have HWW := Lib.hid hW
  clear hr hR hR0 hbz h4 hW hf0 c40
  by_cases hi : ∃ i, Li.OkIx (rowF N.rows) N.rows.length ref i
  · obtain ⟨i, hi⟩ := hi
    have HI := Lib.hid hi.ix
    have HRD := Lib.hid (show rowD N.rows ref = rowF N.rows i by unfold rowD; rw [okIx_iff hok hi]; rfl)
    have hlt := hi.2.1
    clear hi hok
    go_enter Tryz.func64, Tryz.ntmps64
    go_wp2_with fail
    rw [← HWW.out]
    refine HIX.out.mono ?_
    rintro e w2 ⟨rfl, hb2⟩
    rw [HI.out]
    have HB2 := Lib.hid (HB.out.trans (hb2.mono HB.out.size))
    have HZ2 := Lib.hid (HZ.out.fr (Fr.of_below (S := fun _ => False) hb2) (fun h => h))
    have d4 := (HB2.out.cell (p := ⟨p, 4, none⟩) hplt).trans c4
    obtain ⟨b, off, rfl, hb0, hc⟩ := (HR.out.below HB2.out).row (by omega)
    have r0 := hc i hlt 0 _ rfl
    have r1 := hc i hlt 1 _ rfl
    have r2 := hc i hlt 2 _ rfl
    rw [Nat.add_zero] at r0
    obtain ⟨⟨B1, e1, hv1, s1⟩, ⟨B2, e2, hv2, s2⟩⟩ := HR0.out.each i hlt
    rw [hv1] at r1
    rw [hv2] at r2
    have HS := Lib.hid (show NumIn w0 (fun b => b < w0.heap.size) (.slice B1 (rowF N.rows i).ws.length e1) (rowF N.rows i).ws ∧ NumIn w0 (fun b => b < w0.heap.size) (.slice B2 (rowF N.rows i).ls.length e2) (rowF N.rows i).ls from ⟨numIn_sl ⟨B1, e1, rfl, s1⟩, numIn_sl ⟨B2, e2, rfl, s2⟩⟩)
    clear hv1 hv2 s1 s2
    have z0 := HZ2.out.1 0 _ rfl
    have z1 := HZ2.out.1 1 _ rfl
    have z2 := HZ2.out.1 2 _ rfl
    have zf := HZ2.out.2.1
    have i1 : (0 : Int) ≤ (i : Int) := by omega
    have i2 : (i : Int) < (N.rows.length : Int) := by omega
    have i3 : ¬ (i : Int) < 0 := by omega
    clear hb2 hc c4
    go_wp2_with fail
    refine bodyPost_ret (v := .agg #[.int .i64 (rowF N.rows i).ref, .slice B1 (rowF N.rows i).ws.length e1, .slice B2 (rowF N.rows i).ls.length e2]) (by simp [results, Tryz.results64, go_sem, z0, z1, z2]) rfl ?_
    rw [HRD.out]
    have hfin : Fr (fun k => w.heap.size ≤ k) w (((w2.setCell ⟨w.heap.size + 1, 0, none⟩ (.int .i64 (rowF N.rows i).ref)).setCell ⟨w.heap.size + 1, 1, none⟩ (.slice B1 (rowF N.rows i).ws.length e1)).setCell ⟨w.heap.size + 1, 2, none⟩ (.slice B2 (rowF N.rows i).ls.length e2)) := (((Fr.of_below (S := fun k => w.heap.size ≤ k) HB2.out).set (Or.inl (by show w.heap.size ≤ w.heap.size + 1; omega)) _).set (Or.inl (by show w.heap.size ≤ w.heap.size + 1; omega)) _).set (Or.inl (by show w.heap.size ≤ w.heap.size + 1; omega)) _
    have hz0 := HF0.out.size
    have hf9 : Fr (fun k => w.heap.size ≤ k) w0 _ := (HF0.out.weak (fun _ h => h.elim)).trans' hfin
    exact ⟨_, _, rfl, HS.out.1.fr hf9 (fun b hb hD => by have h1 : b < w0.heap.size := hb; have h2 : w.heap.size ≤ b := hD; omega) (fun _ h => h), HS.out.2.fr hf9 (fun b hb hD => by have h1 : b < w0.heap.size := hb; have h2 : w.heap.size ≤ b := hD; omega) (fun _ h => h), hfin.below (fun k hk => hk) (Nat.le_refl _)⟩
  · have HI := Lib.hid (Li.ix_none hok hi)
    have HRD := Lib.hid (show rowD N.rows ref = dRow by unfold rowD; rw [rowL_none hok hi]; rfl)
    clear hi hok
    go_enter Tryz.func64, Tryz.ntmps64
    go_wp2_with fail
    rw [← HWW.out]
    refine HIX.out.mono ?_
    rintro e w2 ⟨rfl, hb2⟩
    rw [HI.out]
    have HB2 := Lib.hid (HB.out.trans (hb2.mono HB.out.size))
    have HZ2 := Lib.hid (HZ.out.fr (Fr.of_below (S := fun _ => False) hb2) (fun h => h))
    have z0 := HZ2.out.1 0 _ rfl
    have z1 := HZ2.out.1 1 _ rfl
    have z2 := HZ2.out.1 2 _ rfl
    have zf := HZ2.out.2.1
    clear hb2
    go_wp2_with fail
    refine bodyPost_ret (v := .agg #[.int .i64 0, .slice none 0 0, .slice none 0 0]) (by simp [results, Tryz.results64, go_sem, z0, z1, z2]) rfl ?_
    rw [HRD.out]
    refine ⟨_, _, rfl, numIn_nil' _ _, numIn_nil' _ _, ?_⟩
    iterate 3 (refine below_set ?_ (by omega))
    exact HB2.out
set_option maxRecDepth 100000 in
set_option maxHeartbeats 4000000 in
theorem nsave_any {w : World} {X M : Nat → Prop} {base T p : Nat} {P : Int → Nat} {N : NdS} (h : NodeAt w X M base T p P N) {ref : Int} {a : ActS} (ha : N.find ref = some a) (hw : a.waits = true) :
    Calls Tryz.prog 63 #[.pointer (some ⟨p, 0, none⟩), .int .i64 ref] w (SavedPost a.d.nm 2 (topV a.d.r) w (fun v => .tuple #[v, .int .i64 0])) := by
  have hplt := h.p_lt
  obtain ⟨hm, hr⟩ := find_some ha
  have hok := h.ok.act a hm
  obtain ⟨pa, b, rb, kb, ib, MA, mb, hpa, c3, hA, hMA, hlk, -⟩ := h.act ha
  have hlook := fun (W : World) (hf : Fr (fun _ => False) w W) => hlk W (hf.weak (fun _ h => h.elim))
  have HLK := Lib.hid hlook
  have a0 := hA.a0
  have a4 := hA.a4
  rw [hw] at a4
  have hpl := hA.lt.1
  obtain ⟨W, hW⟩ : ∃ W, W = w.alloc (.cells #[.string ⟨#[]⟩, .slice none 0 0, .slice none 0 0] 80) := ⟨_, rfl⟩
  have hfW : Fr (fun _ => False) w W := by rw [hW]; exact (Fr.refl _ _).alloc _
  have hdia : DiaAt W X base T b rb ib a.d := hA.dia.fr hfW (fun _ h => h.elim) (fun k hk => .inl hk) (fun _ h => h.elim) (Nat.le_refl _) (fun h => h) (fun h => h) (fun _ _ h => h)
  have HS := Lib.hid (dsave_any X base T b rb ib a.d W hdia (hok.waits hw))
  have HZ := Lib.hid (show CellsN W w.heap.size [.string ⟨#[]⟩, .slice none 0 0, .slice none 0 0] by rw [hW]; exact cellsN_new w _ _)
  have HF := Lib.hid hfW
  have HWW := Lib.hid hW
  have d0 := hfW.cell a0 (fun h => h)
  have d3 := hfW.cell c3 (fun h => h)
  have d4 := hfW.cell a4 (fun h => h)
  have hl1 := hlook (w.alloc (.cells #[.string ⟨#[]⟩, .slice none 0 0, .slice none 0 0] 80)) ((Fr.refl _ _).alloc _)
  have hzW := hfW.size
  clear h ha hok hA hMA hlk hdia hW hfW hpa hm hlook
  have HD := Lib.hid (And.intro d0 (And.intro d3 d4))
  clear d0 d3 d4
  go_enter Tryz.func63, Tryz.ntmps63
  go_wp2_with fail
  rw [← HWW.out]
  refine HS.out.mono ?_
  rintro e w1 ⟨A', c', rfl, q1, q2, q3, hb1⟩
  have HQ := Lib.hid q3
  have HB := Lib.hid hb1
  have HZ1 := Lib.hid (HZ.out.fr (Fr.of_below (S := fun _ => False) hb1) (fun h => h))
  have z0 := HZ1.out.1 0 _ rfl
  have z1 := HZ1.out.1 1 _ rfl
  have z2 := HZ1.out.1 2 _ rfl
  have zf := HZ1.out.2.1
  clear q3 hb1 a0 a4 c3 hl1
  go_wp2_with fail
  refine bodyPost_ret (v := .tuple #[.agg #[.string a.d.nm, .slice A' 2 c', .slice none 0 0], .int .i64 0]) (by simp [results, Tryz.results63, go_sem, z0, z1, z2]) rfl ⟨A', c', rfl, q1, q2, ?_, ?_⟩
  · refine RdV.lower (B := W.heap.size) (RdV.fr3 (D := fun k => k = w.heap.size) HQ.out ?_ (fun k hk => by have := HZ.out.2.2; omega)) hzW
    iterate 3 (refine Fr.setAt ?_ _)
    exact Fr.refl _ _
  · iterate 3 (refine below_set ?_ (Nat.le_refl _))
    exact (HF.out.below (fun _ h => h.elim) (Nat.le_refl _)).trans (HB.out.mono hzW)
def SaveNo (x : Int) (w : World) (e : Ending) (w' : World) : Prop := e = .returned (.tuple #[.agg #[.string ⟨#[]⟩, .slice none 0 0, .slice none 0 0], .int .i64 x]) ∧ Below w.heap.size w w'
set_option maxRecDepth 100000 in
set_option maxHeartbeats 4000000 in
theorem nsave_no {w : World} {X M : Nat → Prop} {base T p : Nat} {P : Int → Nat} {N : NdS} (h : NodeAt w X M base T p P N) {ref : Int} {a : ActS} (ha : N.find ref = some a) (hw : a.waits = false) :
    Calls Tryz.prog 63 #[.pointer (some ⟨p, 0, none⟩), .int .i64 ref] w (SaveNo 9 w) := by
  have hplt := h.p_lt
  obtain ⟨pa, b, rb, kb, ib, MA, mb, hpa, c3, hA, hMA, hlk, -⟩ := h.act ha
  have a4 := hA.a4
  rw [hw] at a4
  have hpl := hA.lt.1
  have hl1 := hlk (w.alloc (.cells #[.string ⟨#[]⟩, .slice none 0 0, .slice none 0 0] 80)) ((Fr.refl _ _).alloc _)
  clear h ha hA hMA hlk hpa hw
  go_enter Tryz.func63, Tryz.ntmps63
  go_wp2_with fail
  refine bodyPost_ret (v := .tuple #[.agg #[.string ⟨#[]⟩, .slice none 0 0, .slice none 0 0], .int .i64 9]) (by simp [results, Tryz.results63, go_sem]) rfl ⟨rfl, ?_⟩
  exact (Below.refl _ _).alloc (Nat.le_refl _) _
set_option maxRecDepth 100000 in
set_option maxHeartbeats 4000000 in
theorem nsave_none {w : World} {X M : Nat → Prop} {base T p : Nat} {P : Int → Nat} {N : NdS} (h : NodeAt w X M base T p P N) {ref : Int} (hr : Wf ref) (hn : N.has ref = false) :
    Calls Tryz.prog 63 #[.pointer (some ⟨p, 0, none⟩), .int .i64 ref] w (SaveNo 4 w) := by
  have hplt := h.p_lt
  obtain ⟨mb, c3, hmb, _, hlk1, hlk2⟩ := h.look
  have hl1 := hlk2 ref hr hn (w.alloc (.cells #[.string ⟨#[]⟩, .slice none 0 0, .slice none 0 0] 80)) ((Fr.refl _ _).alloc _)
  clear h hlk1 hlk2
  go_enter Tryz.func63, Tryz.ntmps63
  go_wp2_with fail
  refine bodyPost_ret (v := .tuple #[.agg #[.string ⟨#[]⟩, .slice none 0 0, .slice none 0 0], .int .i64 4]) (by simp [results, Tryz.results63, go_sem]) rfl ⟨rfl, ?_⟩
  exact (Below.refl _ _).alloc (Nat.le_refl _) _
/-- one goes on for sure -/
def canL (N : NdS) (ref : Int) : Bool := match N.find ref with
  | some a => !a.waits
  | none => false
set_option maxRecDepth 100000 in
set_option maxHeartbeats 4000000 in
theorem canL_any {w : World} {X M : Nat → Prop} {base T p : Nat} {P : Int → Nat} {N : NdS} (h : NodeAt w X M base T p P N) {ref : Int} (hr : Wf ref) :
    Calls Tryz.prog 39 #[.pointer (some ⟨p, 0, none⟩), .int .i64 ref] w fun e w' => e = .returned (.bool (canL N ref)) ∧ Below w.heap.size w w' := by
  rcases ha : N.find ref with _ | a
  · have hn : N.has ref = false := by unfold NdS.has; rw [ha]; rfl
    have HS := Lib.hid (nsave_none h hr hn)
    have HC := Lib.hid (show canL N ref = false by unfold canL; rw [ha])
    clear h ha hn
    go_enter Tryz.func39, Tryz.ntmps39
    go_wp2_with fail
    refine HS.out.mono ?_
    rintro e w1 ⟨rfl, hb⟩
    have HB := Lib.hid hb
    clear hb
    go_wp2_with fail
    go_ret
    exact ⟨by rw [HC.out]; rfl, HB.out.alloc HB.out.size _⟩
  · rcases hw : a.waits with _ | _
    · have HS := Lib.hid (nsave_no h ha hw)
      have HC := Lib.hid (show canL N ref = true by unfold canL; rw [ha]; show (!a.waits) = true; rw [hw]; rfl)
      clear h ha hw
      go_enter Tryz.func39, Tryz.ntmps39
      go_wp2_with fail
      refine HS.out.mono ?_
      rintro e w1 ⟨rfl, hb⟩
      have HB := Lib.hid hb
      clear hb
      go_wp2_with fail
      go_ret
      exact ⟨by rw [HC.out]; rfl, HB.out.alloc HB.out.size _⟩
    · have HS := Lib.hid (nsave_any h ha hw)
      have HC := Lib.hid (show canL N ref = false by unfold canL; rw [ha]; show (!a.waits) = false; rw [hw]; rfl)
      clear h ha hw
      go_enter Tryz.func39, Tryz.ntmps39
      go_wp2_with fail
      refine HS.out.mono ?_
      rintro e w1 ⟨A', c', rfl, _, _, _, hb⟩
      have HB := Lib.hid hb
      clear hb
      go_wp2_with fail
      go_ret
      exact ⟨by rw [HC.out]; rfl, HB.out.alloc HB.out.size _⟩
end Go.Proofs.YtjjfglbcikaicaaGreat
namespace Go.Proofs.YtjjfglbcikaicaaGreat
open Go.RowKit Go.Maps
set_option linter.unusedVariables false
set_option linter.unusedSimpArgs false
/-- the parcel of an actor -/
def pclN (N : NdS) (a : ActS) : PclS := ⟨a.ref, a.d.nm, topV a.d.r, a.box, a.ticks, (rowD N.rows a.ref).ws, (rowD N.rows a.ref).ls⟩
theorem rowD_ok {rows : List Li.LR} (ok : Li.OkL (rowF rows) rows.length) (ref : Int) : (rowD rows ref).ws.length ≤ 100 ∧ (rowD rows ref).ls.length ≤ 100 := by
  by_cases hi : ∃ i, Li.OkIx (rowF rows) rows.length ref i
  · obtain ⟨i, hi⟩ := hi
    unfold rowD
    rw [okIx_iff ok hi]
    exact ⟨(ok.2 i hi.2.1).2.1, (ok.2 i hi.2.1).2.2.1⟩
  · unfold rowD
    rw [rowL_none ok hi]
    exact ⟨Nat.zero_le _, Nat.zero_le _⟩
theorem cells3_of {w : World} {q : Nat} {c0 c1 c2 : Value} (h0 : w.cell? ⟨q, 0, none⟩ = some c0) (h1 : w.cell? ⟨q, 1, none⟩ = some c1) (h2 : w.cell? ⟨q, 2, none⟩ = some c2) (hf : ∀ o, w.frozen? ⟨q, o, none⟩ = false) : CellsN w q [c0, c1, c2] := ⟨fun j u hu => by
  match j, hu with
  | 0, hu => injection hu with hu; subst hu; exact h0
  | 1, hu => injection hu with hu; subst hu; exact h1
  | 2, hu => injection hu with hu; subst hu; exact h2, hf, World.block_lt_of_cell? w _ h0⟩
set_option maxRecDepth 100000 in
set_option maxHeartbeats 8000000 in
theorem parcel_any {w : World} {X M : Nat → Prop} {base T p : Nat} {P : Int → Nat} {N : NdS} (h : NodeAt w X M base T p P N) {ref : Int} {a : ActS} (ha : N.find ref = some a) (hw : a.waits = true) :
    Calls Tryz.prog 36 #[.pointer (some ⟨p, 0, none⟩), .int .i64 ref] w (PclPost (pclN N a) w (fun v => .tuple #[v, .int .i64 0])) := by
  obtain ⟨hm, rfl⟩ := find_some ha
  obtain ⟨W, hW⟩ : ∃ W, W = w.alloc (.cells #[.int .i64 0, .string ⟨#[]⟩, .slice none 0 0, .slice none 0 0, .slice none 0 0, .int .i64 0, .slice none 0 0, .slice none 0 0] 82) := ⟨_, rfl⟩
  have hfW : Fr (fun _ => False) w W := by rw [hW]; exact (Fr.refl _ _).alloc _
  have HZ := Lib.hid (show CellsN W w.heap.size [.int .i64 0, .string ⟨#[]⟩, .slice none 0 0, .slice none 0 0, .slice none 0 0, .int .i64 0, .slice none 0 0, .slice none 0 0] by rw [hW]; exact cellsN_new w _ _)
  have HN := Lib.hid (h.new hfW (fun _ h => h))
  have HA := Lib.hid ha
  have HSV := Lib.hid (nsave_any HN.out ha hw)
  have hok := h.ok.act a hm
  have HBX := Lib.hid hok.box
  have HRO := Lib.hid (rowD_ok h.ok.rows.ok a.ref)
  have hzW := hfW.size
  have HF := Lib.hid hfW
  have HWW := Lib.hid hW
  have hplt := HN.out.p_lt
  clear h ha hm hok hW hfW
  go_enter Tryz.func36, Tryz.ntmps36
  go_wp2_with fail
  rw [← HWW.out]
  refine HSV.out.mono ?_
  rintro e w1 ⟨A2, c2, rfl, q1, q2, q3, hb1⟩
  have HQ := Lib.hid (And.intro q1 (And.intro q2 q3))
  have HB1 := Lib.hid (Fr.of_below (S := fun _ => False) hb1)
  clear q1 q2 q3 hb1 HSV
  go_wp2_with fail
  obtain ⟨W2, hW2⟩ : ∃ W2, W2 = w1.alloc (.cells #[.string a.d.nm, .slice A2 2 c2, .slice none 0 0] 80) := ⟨_, rfl⟩
  have hf2 : Fr (fun _ => False) w1 W2 := by rw [hW2]; exact (Fr.refl _ _).alloc _
  have HS2 := Lib.hid (show CellsN W2 w1.heap.size [.string a.d.nm, .slice A2 2 c2, .slice none 0 0] by rw [hW2]; exact cellsN_new w1 _ _)
  have HF2 := Lib.hid (HB1.out.trans' hf2)
  have HFW12 := Lib.hid hf2
  have HN2 := Lib.hid (HN.out.new HF2.out (fun _ h => h))
  have HZ2 := Lib.hid (HZ.out.fr HF2.out (fun h => h))
  obtain ⟨pa, b, rb, kb, ib, MA, mb, hpa, c3, hA, hMA, hlk, -⟩ := HN2.out.act HA.out
  have HLK := Lib.hid hlk
  have HAG := Lib.hid hA
  have HROW := Lib.hid (fun (W9 : World) (hf : Fr (fun _ => False) W2 W9) => row_any HN2.out hf a.ref)
  have l0 := hlk W2.drew ((Fr.refl _ _).drew)
  have l1 := hlk (W2.alloc (.cells #[.int .i64 0, .slice none 0 0, .slice none 0 0] 132)).drew (((Fr.refl _ _).alloc _).drew)
  have c3' : W2.drew.cell? ⟨p, 3, none⟩ = some (.map (some mb)) := c3
  have hplt2 := HN2.out.p_lt
  rw [← hW2]
  clear hW2 hf2 hpa hA hMA hlk
  go_cut [8, 9] (fun v8 v9 wx => v8 = .pointer (some ⟨pa, 0, none⟩) ∧ ∃ q A6 c6 A7 c7, v9 = .pointer (some ⟨q, 0, none⟩) ∧ CellsN wx q [.int .i64 (rowD N.rows a.ref).ref, .slice A6 (rowD N.rows a.ref).ws.length c6, .slice A7 (rowD N.rows a.ref).ls.length c7] ∧ Hid (NumIn wx (fun b => b < W2.heap.size) (.slice A6 (rowD N.rows a.ref).ws.length c6) (rowD N.rows a.ref).ws) ∧ Hid (NumIn wx (fun b => b < W2.heap.size) (.slice A7 (rowD N.rows a.ref).ls.length c7) (rowD N.rows a.ref).ls) ∧ Hid (Fr (fun _ => False) W2 wx))
  case first =>
    go_region_with (first
      | (go_at_call 64; refine (HROW.out _ (by (repeat' first | with_reducible exact Fr.refl _ _ | (with_reducible refine Fr.setEq ?_ _) | (with_reducible refine Fr.setNew ?_ _) | with_reducible refine Fr.alloc ?_ _ | with_reducible refine Fr.drewN ?_ _ | with_reducible refine Fr.drew ?_))).mono ?_; rintro e w3 ⟨v1, v2, rfl, n1, n2, hb3⟩; have HN1 := Lib.hid n1; have HN2' := Lib.hid n2; obtain ⟨A6, c6, e6, -⟩ := n1; obtain ⟨A7, c7, e7, -⟩ := n2; subst e6; subst e7; have HF3 := Lib.hid (show Fr (fun _ => False) W2 w3 from (show Fr (fun _ => False) W2 _ by (repeat' first | with_reducible exact Fr.refl _ _ | (with_reducible refine Fr.setEq ?_ _) | (with_reducible refine Fr.setNew ?_ _) | with_reducible refine Fr.alloc ?_ _ | with_reducible refine Fr.drewN ?_ _ | with_reducible refine Fr.drew ?_)).trans' (Fr.of_below (below_drew' hb3))); (first | (have HCQ := Lib.hid ((cellsN_new W2 [.int .i64 0, .slice none 0 0, .slice none 0 0] 132).fr (D := fun _ => False) (Fr.of_below (below_drew' hb3)) (fun h => h)); have k0 := HCQ.out.1 0 _ rfl; have k1 := HCQ.out.1 1 _ rfl; have k2 := HCQ.out.1 2 _ rfl; have kf := HCQ.out.2.1) | skip); have l3 := HLK.out w3 (HF3.out.weak (fun _ h => h.elim)); have l4 := HLK.out (w3.alloc (.cells #[.int .i64 0, .slice none 0 0, .slice none 0 0] 132)) ((HF3.out.alloc _).weak (fun _ h => h.elim)); have d3 := HF3.out.cell c3 (fun h => h); have hp3 := Nat.lt_of_lt_of_le hplt2 HF3.out.size; clear hb3))
    all_goals
      go_wp2_with fail
      go_meet
      refine ⟨rfl, ?_⟩
      first
        | (refine ⟨w3.heap.size, A6, c6, A7, c7, (by with_reducible rfl), ?_, ?_, ?_, ?_⟩
           · exact cellsN_new w3 [_, _, _] _
           · exact Lib.hid (HN1.out.fr (S := fun _ => False) ((Fr.refl _ _).alloc _) (fun _ _ h => h) (fun _ h => h))
           · exact Lib.hid (HN2'.out.fr (S := fun _ => False) ((Fr.refl _ _).alloc _) (fun _ _ h => h) (fun _ h => h))
           · exact Lib.hid (HF3.out.alloc _))
        | (refine ⟨W2.heap.size, A6, c6, A7, c7, (by with_reducible rfl), ?_, ?_, ?_, ?_⟩
           · exact cells3_of (set_other (set_other (set_this k0) (by decide)) (by decide)) (set_other (set_this (set_other k1 (by decide))) (by decide)) (set_this (set_other (set_other k2 (by decide)) (by decide))) (fun o => set_fz (set_fz (set_fz kf)) o)
           · refine Lib.hid (HN1.out.fr (S := fun k => k = W2.heap.size) ?_ (fun b hb e => by have h1 : b < W2.heap.size := hb; omega) (fun _ h => h))
             iterate 3 (refine Fr.setAt ?_ _)
             exact Fr.refl _ _
           · refine Lib.hid (HN2'.out.fr (S := fun k => k = W2.heap.size) ?_ (fun b hb e => by have h1 : b < W2.heap.size := hb; omega) (fun _ h => h))
             iterate 3 (refine Fr.setAt ?_ _)
             exact Fr.refl _ _
           · exact Lib.hid (((HF3.out.set (Or.inr (Nat.le_refl _)) _).set (Or.inr (Nat.le_refl _)) _).set (Or.inr (Nat.le_refl _)) _))
  case rest =>
    obtain ⟨rfl, q, A6, c6, A7, c7, rfl, HQc, HN6, HN7, HFc⟩ := hcut
    have s0 := (HS2.out.fr HFc.out (fun h => h)).1 0 _ rfl
    have s1 := (HS2.out.fr HFc.out (fun h => h)).1 1 _ rfl
    have s2 := (HS2.out.fr HFc.out (fun h => h)).1 2 _ rfl
    have q1 := HQc.1 1 _ rfl
    have q2 := HQc.1 2 _ rfl
    have hAc := HAG.out.fr (X' := X) HFc.out (fun _ h => h.elim) (fun k hk => .inl hk) (fun _ h => h.elim) (Nat.le_refl _) (fun _ _ h => h)
    obtain ⟨A4, c4, a2, k1, k2, k3⟩ := hAc.a2
    have a5 := hAc.a5
    have HBX2 := Lib.hid (And.intro k1 (And.intro k2 k3))
    have hpl := hAc.lt.1
    have hsl : w1.heap.size < wc.heap.size := (HS2.out.fr HFc.out (fun h => h)).2.2
    have hql := HQc.2.2
    have HZc := Lib.hid (HZ2.out.fr HFc.out (fun h => h))
    have HFA := Lib.hid ((HB1.out.trans' (show Fr (fun _ => False) w1 W2 from HFW12.out)).trans' HFc.out)
    have HCP := Lib.hid (fun (W9 : World) (hf : Fr (fun _ => False) wc W9) => pcopy_any (pclN N a) [.int .i64 a.ref, .string a.d.nm, .slice A2 2 c2, .slice none 0 0, .slice A4 a.box.length c4, .int .i64 a.ticks, .slice A6 (rowD N.rows a.ref).ws.length c6, .slice A7 (rowD N.rows a.ref).ls.length c7] (fun _ => True) W9
      ⟨A2, c2, A4, c4, _, _, rfl, HQ.out.1, HQ.out.2.1, HBX2.out.1, HBX2.out.2.1, HQ.out.2.2.frame (Nat.le_trans HFW12.out.size (Nat.le_trans HFc.out.size hf.size)) (fun b hb hlt => ⟨trivial, ((HFW12.out.trans' HFc.out).trans' hf).block b hlt (fun h => h)⟩), HBX2.out.2.2.frame hf.size (fun b hb hlt => ⟨trivial, hf.block b hlt (fun h => h)⟩), HN6.out.fr hf (fun _ _ h => h) (fun _ _ => trivial), HN7.out.fr hf (fun _ _ h => h) (fun _ _ => trivial)⟩
      HBX.out.1 (fun i hi => by have := (HBX.out.2.2 _ (nthL_mem hi)).2.2.2.2.2; have h2 : (nthL (pclN N a).box i).val.many = (nthL a.box i).val.many := rfl; omega) (fun i hi => by show (topV a.d.r i).many ≤ 4194304; unfold topV; split <;> simp [vLeaf, VT.many, sumTo]) (by have := HRO.out.1; show (rowD N.rows a.ref).ws.length ≤ 1000000; omega) (by have := HRO.out.2; show (rowD N.rows a.ref).ls.length ≤ 1000000; omega))
    clear hAc k1 k2 k3 HQc l0 l1 c3' c3
    go_wp2_with fail
    go_region
    go_wp2_with fail
    refine (HCP.out _ (by (repeat' first | with_reducible exact Fr.refl _ _ | (with_reducible refine Fr.setEq ?_ _) | (with_reducible refine Fr.setNew ?_ _) | with_reducible refine Fr.alloc ?_ _ | with_reducible refine Fr.drewN ?_ _ | with_reducible refine Fr.drew ?_))).mono ?_
    rintro e w5 ⟨B2, d2, B4, d4, C4, B6, d6, B7, d7, rfl, g1, g2, g3, g4, g5, g6, hb5⟩
    simp only [id]
    have hf5 : Fr (fun _ => False) wc w5 := (show Fr (fun _ => False) wc _ by (repeat' first | with_reducible exact Fr.refl _ _ | (with_reducible refine Fr.setEq ?_ _) | (with_reducible refine Fr.setNew ?_ _) | with_reducible refine Fr.alloc ?_ _ | with_reducible refine Fr.drewN ?_ _ | with_reducible refine Fr.drew ?_)).trans' (Fr.of_below hb5)
    have HZ5 := Lib.hid (HZc.out.fr hf5 (fun h => h))
    have hzz : W.heap.size ≤ (wc.alloc (.cells #[.int .i64 a.ref, .string a.d.nm, .slice A2 2 c2, .slice none 0 0, .slice A4 a.box.length c4, .int .i64 a.ticks, .slice A6 (rowD N.rows a.ref).ws.length c6, .slice A7 (rowD N.rows a.ref).ls.length c7] 82)).drew.heap.size := by
      have h1 := HFA.out.size
      show W.heap.size ≤ (wc.alloc _).heap.size
      simp
      omega
    have hq0 : w.heap.size < W.heap.size := HZ.out.2.2
    have hlow : w.heap.size ≤ (wc.alloc (.cells #[.int .i64 a.ref, .string a.d.nm, .slice A2 2 c2, .slice none 0 0, .slice A4 a.box.length c4, .int .i64 a.ticks, .slice A6 (rowD N.rows a.ref).ws.length c6, .slice A7 (rowD N.rows a.ref).ls.length c7] 82)).drew.heap.size := by omega
    have HG3 := Lib.hid (RdV.lower g3 (by exact hzz))
    have HG4 := Lib.hid (LRow.lower g4 (by exact hzz))
    have HG5 := Lib.hid (OwnI.mono (base' := W.heap.size) g5 hzz)
    have HG6 := Lib.hid (OwnI.mono (base' := W.heap.size) g6 hzz)
    have HF5 := Lib.hid ((HF.out.trans' HFA.out).trans' hf5)
    have z0 := HZ5.out.1 0 _ rfl
    have z1 := HZ5.out.1 1 _ rfl
    have z2 := HZ5.out.1 2 _ rfl
    have z3 := HZ5.out.1 3 _ rfl
    have z4 := HZ5.out.1 4 _ rfl
    have z5 := HZ5.out.1 5 _ rfl
    have z6 := HZ5.out.1 6 _ rfl
    have z7 := HZ5.out.1 7 _ rfl
    have zf := HZ5.out.2.1
    clear g3 g4 g5 g6 hb5 hf5 hzz hlow HCP
    go_wp2_with fail
    refine bodyPost_ret (v := .tuple #[.agg #[.int .i64 a.ref, .string a.d.nm, .slice B2 2 d2, .slice none 0 0, .slice B4 a.box.length d4, .int .i64 a.ticks, .slice B6 (rowD N.rows a.ref).ws.length d6, .slice B7 (rowD N.rows a.ref).ls.length d7], .int .i64 0]) (by simp [results, Tryz.results36, go_sem, z0, z1, z2, z3, z4, z5, z6, z7, pclN]) rfl ⟨B2, d2, B4, d4, C4, B6, d6, B7, d7, rfl, g1, g2, ?_, ?_, ?_, ?_, ?_⟩
    · refine RdV.lower (B := W.heap.size) (RdV.fr3 (D := fun k => k = w.heap.size) HG3.out ?_ (fun k hk => by omega)) (by omega)
      iterate 8 (refine Fr.setAt ?_ _)
      exact Fr.refl _ _
    · refine LRow.lower (base := W.heap.size) (LRow.fr (S := fun k => k = w.heap.size) HG4.out ?_ (fun k hk => by omega)) (by omega)
      iterate 8 (refine Fr.setAt ?_ _)
      exact Fr.refl _ _
    · refine OwnI.fr (S := fun k => k = w.heap.size) (OwnI.mono (base' := w.heap.size) HG5.out (by omega)) ?_ (fun k hk hq => by have := (HG5.out.blk k hk).1; omega)
      iterate 8 (refine Fr.setAt ?_ _)
      exact Fr.refl _ _
    · refine OwnI.fr (S := fun k => k = w.heap.size) (OwnI.mono (base' := w.heap.size) HG6.out (by omega)) ?_ (fun k hk hq => by have := (HG6.out.blk k hk).1; omega)
      iterate 8 (refine Fr.setAt ?_ _)
      exact Fr.refl _ _
    · iterate 8 (refine below_set ?_ (Nat.le_refl _))
      exact HF5.out.below (fun _ h => h.elim) (Nat.le_refl _)
end Go.Proofs.YtjjfglbcikaicaaGreat
namespace Go.Proofs.YtjjfglbcikaicaaGreat
open Go.RowKit
set_option linter.unusedVariables false
set_option linter.unusedSimpArgs false
/-- the block of a slice may be written -/
def NFt (w : World) (S : Nat → Prop) (v : Value) : Prop := ∀ b off n c, v = .slice (some ⟨b, off, none⟩) n c → S b ∧ b < w.heap.size ∧ ∀ o, w.frozen? ⟨b, o, none⟩ = false
theorem NFt.fr {w w' : World} {D S S' : Nat → Prop} {v : Value} (h : NFt w S v) (hf : Fr D w w') (hD : ∀ b, S b → b < w.heap.size → ¬ D b ∧ S' b) : NFt w' S' v := fun b off n c e => by
  obtain ⟨h1, h2, h3⟩ := h b off n c e
  obtain ⟨g1, g2⟩ := hD b h1 h2
  exact ⟨g2, Nat.lt_of_lt_of_le h2 hf.size, fun o => (hf.frozen h2 g1).trans (h3 o)⟩
theorem NFt.of_own {w : World} {base : Nat} {e : TypeId} {sz n : Nat} {v : Value} {xs : List Value} (h : w.ownsRow base e sz v n xs) : NFt w (fun b => base ≤ b) v := fun b off m c hv => by
  rcases h.2 with ⟨rfl, _⟩ | ⟨g, cap, cur, rfl, hb, hg, _⟩
  · cases hv
  · injection hv with e1
    injection e1 with e1
    injection e1 with e1 _ _
    subst e1
    exact ⟨(h.lt g rfl).1, (h.lt g rfl).2, fun o => by simp [World.frozen?, hg]⟩
theorem Fr.setTwo {D : Nat → Prop} {w w1 : World} {b o : Nat} (h : Fr D w w1) (hb : D b) (u : Value) : Fr D w (w1.setCell ⟨b, o, none⟩ u) := h.set (Or.inl hb) u
/-- the copy, and that its arguments may be written -/
def CopyPostT (t : VT) (w : World) (e : Ending) (w' : World) : Prop := ∃ k m s v, e = .returned (.agg #[.int .i64 k, .int .i64 m, .string s, v]) ∧ t.isV w' (fun b => w.heap.size ≤ b) [.int .i64 k, .int .i64 m, .string s, v] ∧ Below w.heap.size w w' ∧ NFt w' (fun b => w.heap.size ≤ b) v
set_option maxRecDepth 100000 in
set_option maxHeartbeats 1000000 in
theorem copyT_any (t : VT) (cs : List Value) (S : Nat → Prop) (w : World) (h : t.isV w S cs) (hm : t.many ≤ 4194304) : Calls Tryz.prog 62 #[.agg cs.toArray] w (CopyPostT t w) := by
  cases t with
  | none => exact h.elim
  | node k m s n arg =>
    have ih := fun i => copy_any (arg i)
    have h' := h
    obtain ⟨A, c, rfl, hnc, hcm, hA, hV⟩ := h'
    have hn : n ≤ 4194304 ∧ ∀ i, i < n → (arg i).many ≤ 4194304 := by
      simp only [VT.many] at hm
      refine ⟨?_, fun i hi => ?_⟩
      · by_cases h0 : 0 < n
        · obtain ⟨b, off, _, _, _, C, hC⟩ := hV h0
          have h1 : n ≤ sumTo (fun i => (arg i).many) n := len_sumTo fun i hi => isV_many (hC i hi).1
          omega
        · omega
      · have := le_sumTo (g := fun i => (arg i).many) hi
        omega
    have he0 : ∀ o o' : Obj, Calls Tryz.prog 93 #[.slice A n c, .func (.func 62) #[] #[]] ((w.alloc o).alloc o') (EachPost n arg ((w.alloc o).alloc o')) := fun o o' => by
      have hb : Below w.heap.size w ((w.alloc o).alloc o') := ((Below.refl _ _).alloc (Nat.le_refl _) _).alloc (by simp) _
      obtain ⟨_, _, he, _, _, _, hV'⟩ := isV_below h hb
      simp at he
      obtain ⟨rfl, rfl⟩ := he
      exact each_any n c A arg S _ hn.1 hV' hn.2 (fun i _ => ih i)
    have HE := Lib.hid he0
    clear h hV ih hm hA he0
    go_enter Tryz.func62, Tryz.ntmps62
    go_wp2_with fail
    refine (HE.out _ _).mono ?_
    rintro e w1 ⟨v, C, rfl, hown, hCl, hCv, hb1⟩
    obtain ⟨A', c', hv, hnc', hcm', hA'⟩ := own_any hown
    have hz1 : w.heap.size + 2 ≤ w1.heap.size := by have := hb1.size; simp at this; omega
    have HF := Lib.hid (fun (w2 : World) (hsz : w1.heap.size ≤ w2.heap.size) (hh : ∀ b, w.heap.size + 2 ≤ b → b < w1.heap.size → w2.heap[b]? = w1.heap[b]?) => isV_mono (S' := fun b => w.heap.size ≤ b) (isV_of_each (w2 := w2) (k := k) (m := m) (s := s) hv hown hCl hCv hsz (fun b hb hl => hh b (by simpa using hb) hl)) (fun b _ hb => by simp at hb; omega))
    have HNF := Lib.hid (NFt.of_own hown)
    have x0 : w1.cell? ⟨w.heap.size, 0, none⟩ = some (.int .i64 k) := (hb1.cell (p := ⟨_, _, none⟩) (by simp; omega)).trans (by simp)
    have x1 : w1.cell? ⟨w.heap.size, 1, none⟩ = some (.int .i64 m) := (hb1.cell (p := ⟨_, _, none⟩) (by simp; omega)).trans (by simp)
    have x2 : w1.cell? ⟨w.heap.size, 2, none⟩ = some (.string s) := (hb1.cell (p := ⟨_, _, none⟩) (by simp; omega)).trans (by simp)
    have x3 : w1.cell? ⟨w.heap.size, 3, none⟩ = some (.slice A n c) := (hb1.cell (p := ⟨_, _, none⟩) (by simp; omega)).trans (by simp)
    have y0 : w1.cell? ⟨w.heap.size + 1, 0, none⟩ = some (.int .i64 0) := (hb1.cell (p := ⟨_, _, none⟩) (by simp)).trans (by simp)
    have y1 : w1.cell? ⟨w.heap.size + 1, 1, none⟩ = some (.int .i64 0) := (hb1.cell (p := ⟨_, _, none⟩) (by simp)).trans (by simp)
    have y2 : w1.cell? ⟨w.heap.size + 1, 2, none⟩ = some (.string ⟨#[]⟩) := (hb1.cell (p := ⟨_, _, none⟩) (by simp)).trans (by simp)
    have y3 : w1.cell? ⟨w.heap.size + 1, 3, none⟩ = some (.slice none 0 0) := (hb1.cell (p := ⟨_, _, none⟩) (by simp)).trans (by simp)
    have fx : ∀ o, w1.frozen? ⟨w.heap.size, o, none⟩ = false := fun o => (hb1.frozen (p := ⟨_, _, none⟩) (by simp; omega)).trans (by simp)
    have fy : ∀ o, w1.frozen? ⟨w.heap.size + 1, o, none⟩ = false := fun o => (hb1.frozen (p := ⟨_, _, none⟩) (by simp)).trans (by simp)
    have HB := Lib.hid ((((Below.refl w.heap.size w).alloc (Nat.le_refl _) _).alloc (by simp) _).trans (hb1.mono (by simp; omega)))
    subst hv
    clear hown hCl hCv hb1
    go_wp2_with fail
    refine bodyPost_ret (v := .agg #[.int .i64 k, .int .i64 m, .string s, .slice A' n c']) (by simp [results, Tryz.results62, go_sem, y0, y1, y2, y3]) rfl ⟨k, m, s, .slice A' n c', rfl, HF.out _ (by simp) (fun b hb _ => ?_), ?_, ?_⟩
    · rw [Below.heap_setCell _ _ _ _ (by show b ≠ w.heap.size + 1; omega), Below.heap_setCell _ _ _ _ (by show b ≠ w.heap.size + 1; omega), Below.heap_setCell _ _ _ _ (by show b ≠ w.heap.size + 1; omega), Below.heap_setCell _ _ _ _ (by show b ≠ w.heap.size + 1; omega), Below.heap_setCell _ _ _ _ (by show b ≠ w.heap.size; omega)]
    · exact ((((HB.out.setCell (p := ⟨w.heap.size, 3, none⟩) (Nat.le_refl _) _).setCell (p := ⟨w.heap.size + 1, 0, none⟩) (Nat.le_succ _) _).setCell (p := ⟨w.heap.size + 1, 1, none⟩) (Nat.le_succ _) _).setCell (p := ⟨w.heap.size + 1, 2, none⟩) (Nat.le_succ _) _).setCell (p := ⟨w.heap.size + 1, 3, none⟩) (Nat.le_succ _) _
    · refine HNF.out.fr (D := fun k => k = w.heap.size ∨ k = w.heap.size + 1) ?_ (fun b hb _ => by have h9 : ((w.alloc _).alloc _).heap.size ≤ b := hb; simp at h9; exact ⟨by omega, by show w.heap.size ≤ b; omega⟩)
      iterate 5 (refine Fr.setTwo ?_ (by omega) _)
      exact Fr.refl _ _
def LCopyPostT (l : LT) (w : World) (e : Ending) (w' : World) : Prop := ∃ cs', e = .returned (.agg cs'.toArray) ∧ l.isL w' (fun b => w.heap.size ≤ b) cs' ∧ Below w.heap.size w w' ∧ ∀ v, cs'[8]? = some v → NFt w' (fun b => w.heap.size ≤ b) v
set_option maxRecDepth 100000 in
set_option maxHeartbeats 1000000 in
theorem lcopyT_any (l : LT) (cs : List Value) (S : Nat → Prop) (w : World) (h : l.isL w S cs) (hm : l.val.many ≤ 4194304) : Calls Tryz.prog 56 #[.agg cs.toArray] w (LCopyPostT l w) := by
  obtain ⟨k2, m2, s2, A2, n2, c2, rfl, hv⟩ := h
  have HC := Lib.hid (fun W hW => copyT_any l.val [.int .i64 k2, .int .i64 m2, .string s2, .slice A2 n2 c2] S W hW hm)
  have HV := Lib.hid hv
  obtain ⟨k, f, t, n, s, val⟩ := l
  dsimp only at HC HV hm ⊢
  clear hv
  go_enter Tryz.func56, Tryz.ntmps56
  go_wp2_with fail
  refine (HC.out _ (isV_below HV.out (((Below.refl _ _).alloc (Nat.le_refl _) _).alloc (by simp) _))).mono ?_
  rintro e w1 ⟨k3, m3, s3, v3, rfl, hV1, hb1, hnf⟩
  obtain ⟨k3', m3', s3', A3, n3, c3, hcs3⟩ := isV_cells hV1
  injection hcs3 with q1 q2
  injection q2 with q2 q3
  injection q3 with q3 q4
  injection q4 with q4 q5
  clear q1 q2 q3 q5
  subst q4
  have HNF := Lib.hid hnf
  have hz1 : w.heap.size + 2 ≤ w1.heap.size := by have := hb1.size; simp at this; omega
  have HF := Lib.hid (fun (w2 : World) (hsz : w1.heap.size ≤ w2.heap.size) (hh : ∀ b, w.heap.size + 2 ≤ b → b < w1.heap.size → w2.heap[b]? = w1.heap[b]?) => isV_frame (w' := w2) (S' := fun b => w.heap.size ≤ b) hsz (fun b hs hl => ⟨by simp at hs; omega, hh b (by simpa using hs) hl⟩) hV1)
  have x0 : w1.cell? ⟨w.heap.size, 0, none⟩ = some (.int .i64 k) := (hb1.cell (p := ⟨_, _, none⟩) (by simp; omega)).trans (by simp)
  have x1 : w1.cell? ⟨w.heap.size, 1, none⟩ = some (.int .i64 f) := (hb1.cell (p := ⟨_, _, none⟩) (by simp; omega)).trans (by simp)
  have x2 : w1.cell? ⟨w.heap.size, 2, none⟩ = some (.int .i64 t) := (hb1.cell (p := ⟨_, _, none⟩) (by simp; omega)).trans (by simp)
  have x3 : w1.cell? ⟨w.heap.size, 3, none⟩ = some (.int .i64 n) := (hb1.cell (p := ⟨_, _, none⟩) (by simp; omega)).trans (by simp)
  have x4 : w1.cell? ⟨w.heap.size, 4, none⟩ = some (.string s) := (hb1.cell (p := ⟨_, _, none⟩) (by simp; omega)).trans (by simp)
  have x5 : w1.cell? ⟨w.heap.size, 5, none⟩ = some (.int .i64 k2) := (hb1.cell (p := ⟨_, _, none⟩) (by simp; omega)).trans (by simp)
  have x6 : w1.cell? ⟨w.heap.size, 6, none⟩ = some (.int .i64 m2) := (hb1.cell (p := ⟨_, _, none⟩) (by simp; omega)).trans (by simp)
  have x7 : w1.cell? ⟨w.heap.size, 7, none⟩ = some (.string s2) := (hb1.cell (p := ⟨_, _, none⟩) (by simp; omega)).trans (by simp)
  have x8 : w1.cell? ⟨w.heap.size, 8, none⟩ = some (.slice A2 n2 c2) := (hb1.cell (p := ⟨_, _, none⟩) (by simp; omega)).trans (by simp)
  have y0 : w1.cell? ⟨w.heap.size + 1, 0, none⟩ = some (.int .i64 0) := (hb1.cell (p := ⟨_, _, none⟩) (by simp)).trans (by simp)
  have y1 : w1.cell? ⟨w.heap.size + 1, 1, none⟩ = some (.int .i64 0) := (hb1.cell (p := ⟨_, _, none⟩) (by simp)).trans (by simp)
  have y2 : w1.cell? ⟨w.heap.size + 1, 2, none⟩ = some (.int .i64 0) := (hb1.cell (p := ⟨_, _, none⟩) (by simp)).trans (by simp)
  have y3 : w1.cell? ⟨w.heap.size + 1, 3, none⟩ = some (.int .i64 0) := (hb1.cell (p := ⟨_, _, none⟩) (by simp)).trans (by simp)
  have y4 : w1.cell? ⟨w.heap.size + 1, 4, none⟩ = some (.string ⟨#[]⟩) := (hb1.cell (p := ⟨_, _, none⟩) (by simp)).trans (by simp)
  have y5 : w1.cell? ⟨w.heap.size + 1, 5, none⟩ = some (.int .i64 0) := (hb1.cell (p := ⟨_, _, none⟩) (by simp)).trans (by simp)
  have y6 : w1.cell? ⟨w.heap.size + 1, 6, none⟩ = some (.int .i64 0) := (hb1.cell (p := ⟨_, _, none⟩) (by simp)).trans (by simp)
  have y7 : w1.cell? ⟨w.heap.size + 1, 7, none⟩ = some (.string ⟨#[]⟩) := (hb1.cell (p := ⟨_, _, none⟩) (by simp)).trans (by simp)
  have y8 : w1.cell? ⟨w.heap.size + 1, 8, none⟩ = some (.slice none 0 0) := (hb1.cell (p := ⟨_, _, none⟩) (by simp)).trans (by simp)
  have fx : ∀ o, w1.frozen? ⟨w.heap.size, o, none⟩ = false := fun o => (hb1.frozen (p := ⟨_, _, none⟩) (by simp; omega)).trans (by simp)
  have fy : ∀ o, w1.frozen? ⟨w.heap.size + 1, o, none⟩ = false := fun o => (hb1.frozen (p := ⟨_, _, none⟩) (by simp)).trans (by simp)
  have HB := Lib.hid ((((Below.refl w.heap.size w).alloc (Nat.le_refl _) _).alloc (by simp) _).trans (hb1.mono (by simp; omega)))
  clear hV1 hb1 hnf
  go_wp2_with fail
  refine bodyPost_ret (v := .agg #[.int .i64 k, .int .i64 f, .int .i64 t, .int .i64 n, .string s, .int .i64 k3, .int .i64 m3, .string s3, .slice A3 n3 c3]) (by simp [results, Tryz.results56, go_sem, y0, y1, y2, y3, y4, y5, y6, y7, y8]) rfl ⟨[.int .i64 k, .int .i64 f, .int .i64 t, .int .i64 n, .string s, .int .i64 k3, .int .i64 m3, .string s3, .slice A3 n3 c3], rfl, ⟨k3, m3, s3, A3, n3, c3, rfl, HF.out _ (by simp) (fun b hb _ => ?_)⟩, ?_, ?_⟩
  · rw [Below.heap_setCell _ _ _ _ (by show b ≠ w.heap.size + 1; omega), Below.heap_setCell _ _ _ _ (by show b ≠ w.heap.size + 1; omega), Below.heap_setCell _ _ _ _ (by show b ≠ w.heap.size + 1; omega), Below.heap_setCell _ _ _ _ (by show b ≠ w.heap.size + 1; omega), Below.heap_setCell _ _ _ _ (by show b ≠ w.heap.size + 1; omega), Below.heap_setCell _ _ _ _ (by show b ≠ w.heap.size + 1; omega), Below.heap_setCell _ _ _ _ (by show b ≠ w.heap.size + 1; omega), Below.heap_setCell _ _ _ _ (by show b ≠ w.heap.size + 1; omega), Below.heap_setCell _ _ _ _ (by show b ≠ w.heap.size + 1; omega), Below.heap_setCell _ _ _ _ (by show b ≠ w.heap.size; omega), Below.heap_setCell _ _ _ _ (by show b ≠ w.heap.size; omega), Below.heap_setCell _ _ _ _ (by show b ≠ w.heap.size; omega), Below.heap_setCell _ _ _ _ (by show b ≠ w.heap.size; omega)]
  · exact (((((((((((((HB.out.setCell (p := ⟨w.heap.size, 5, none⟩) (Nat.le_refl _) _).setCell (p := ⟨w.heap.size, 6, none⟩) (Nat.le_refl _) _).setCell (p := ⟨w.heap.size, 7, none⟩) (Nat.le_refl _) _).setCell (p := ⟨w.heap.size, 8, none⟩) (Nat.le_refl _) _).setCell (p := ⟨w.heap.size + 1, 0, none⟩) (Nat.le_succ _) _).setCell (p := ⟨w.heap.size + 1, 1, none⟩) (Nat.le_succ _) _).setCell (p := ⟨w.heap.size + 1, 2, none⟩) (Nat.le_succ _) _).setCell (p := ⟨w.heap.size + 1, 3, none⟩) (Nat.le_succ _) _).setCell (p := ⟨w.heap.size + 1, 4, none⟩) (Nat.le_succ _) _).setCell (p := ⟨w.heap.size + 1, 5, none⟩) (Nat.le_succ _) _).setCell (p := ⟨w.heap.size + 1, 6, none⟩) (Nat.le_succ _) _).setCell (p := ⟨w.heap.size + 1, 7, none⟩) (Nat.le_succ _) _).setCell (p := ⟨w.heap.size + 1, 8, none⟩) (Nat.le_succ _) _)
  · intro v hv
    have hv' : v = .slice A3 n3 c3 := by
      have : some (Value.slice A3 n3 c3) = some v := hv
      injection this with this
      exact this.symm
    subst hv'
    refine HNF.out.fr (D := fun k => k = w.heap.size ∨ k = w.heap.size + 1) ?_ (fun b hb _ => by have h9 : ((w.alloc _).alloc _).heap.size ≤ b := hb; simp at h9; exact ⟨by omega, by show w.heap.size ≤ b; omega⟩)
    iterate 13 (refine Fr.setTwo ?_ (by omega) _)
    exact Fr.refl _ _
def LEachPostT (n : Nat) (arg : Nat → LT) (w : World) (e : Ending) (w' : World) : Prop :=
  ∃ v C, e = .returned v ∧ w'.ownsRow w.heap.size 43 9 v n (flatC C n) ∧ (∀ i, (C i).length = 9) ∧ (∀ i, i < n → (arg i).isL w' (fun b => w.heap.size ≤ b ∧ some b ≠ v.ownBlock) (C i)) ∧ (∀ i, i < n → ∀ u, (C i)[8]? = some u → NFt w' (fun b => w.heap.size ≤ b ∧ some b ≠ v.ownBlock) u) ∧ Below w.heap.size w w'
set_option maxRecDepth 100000 in
set_option maxHeartbeats 2000000 in
theorem leachT_any (n c : Nat) (A : Option Addr) (arg : Nat → LT) (S : Nat → Prop) (w : World) (hn : n ≤ 4194304) (hV : RdL w S A n arg) (hm : ∀ i, i < n → (arg i).val.many ≤ 4194304) :
    Calls Tryz.prog 55 #[.slice A n c, .func (.func 56) #[] #[]] w (LEachPostT n arg w) := by
  obtain ⟨i0, hi, jz0, jz1, jz2⟩ := info_parts infoL
  have HV := Lib.hid hV
  have HM := Lib.hid hm
  have HE := Lib.hid lcopy_enters
  clear hV hm
  go_enter Tryz.func55, Tryz.ntmps55
  go_wp2_with fail
  go_loopw [5, 7, 10] (fun v _ i wr => ∃ (q : Nat) (C : Nat → List Value), q ≤ n ∧ i = .int .i64 q ∧ wr.ownsRow w.heap.size 43 9 v q (flatC C q) ∧ (∀ i, (C i).length = 9) ∧ (∀ i, i < q → (arg i).isL wr (fun b => w.heap.size ≤ b ∧ some b ≠ v.ownBlock) (C i)) ∧ (∀ i, i < q → ∀ u, (C i)[8]? = some u → NFt wr (fun b => w.heap.size ≤ b ∧ some b ≠ v.ownBlock) u) ∧ Below w.heap.size w wr) (fun _ _ i _ => n - (intOf i).toNat)
  case atStart => exact ⟨0, fun _ => List.replicate 9 undef, Nat.zero_le _, rfl, World.ownsRow_nil _ _ _ _, fun _ => by simp, fun i hi => by omega, fun i hi => by omega, Below.refl _ _⟩
  case round =>
    obtain ⟨q, C, hq, rfl, hown, hCl, hCv, hCn, hB⟩ := hrel
    have HCN := Lib.hid hCn
    by_cases hlt : q < n
    · obtain ⟨b, off, rfl, hb, hSb, D, hD⟩ := HV.out (by omega)
      obtain ⟨hDq, hcell⟩ := hD q hlt
      have hDr := isL_frame (w' := wr) (S' := S) hB.size (fun b hs hlt => ⟨hs, hB.block b hlt⟩) hDq
      have hDr' := hDr
      obtain ⟨k', m', s', A', n', c', hCq, _⟩ := hDr'
      obtain ⟨lq, hlq⟩ : ∃ x, arg q = x := ⟨_, rfl⟩
      have HMq := Lib.hid (HM.out q hlt)
      rw [hlq] at hCq hDr HMq
      have HLQ := Lib.hid hlq
      obtain ⟨k, f, t, num, s, val⟩ := lq
      dsimp only at hCq HMq
      rw [hCq] at hcell hDr
      have c0 : wr.cell? ⟨b, off + q * 9, none⟩ = some (.int .i64 k) := (hB.cell (p := ⟨b, _, none⟩) hb).trans (hcell 0 _ rfl)
      have c1 : wr.cell? ⟨b, off + q * 9 + 1, none⟩ = some (.int .i64 f) := (hB.cell (p := ⟨b, _, none⟩) hb).trans (hcell 1 _ rfl)
      have c2 : wr.cell? ⟨b, off + q * 9 + 2, none⟩ = some (.int .i64 t) := (hB.cell (p := ⟨b, _, none⟩) hb).trans (hcell 2 _ rfl)
      have c3 : wr.cell? ⟨b, off + q * 9 + 3, none⟩ = some (.int .i64 num) := (hB.cell (p := ⟨b, _, none⟩) hb).trans (hcell 3 _ rfl)
      have c4 : wr.cell? ⟨b, off + q * 9 + 4, none⟩ = some (.string s) := (hB.cell (p := ⟨b, _, none⟩) hb).trans (hcell 4 _ rfl)
      have c5 : wr.cell? ⟨b, off + q * 9 + 5, none⟩ = some (.int .i64 k') := (hB.cell (p := ⟨b, _, none⟩) hb).trans (hcell 5 _ rfl)
      have c6 : wr.cell? ⟨b, off + q * 9 + 6, none⟩ = some (.int .i64 m') := (hB.cell (p := ⟨b, _, none⟩) hb).trans (hcell 6 _ rfl)
      have c7 : wr.cell? ⟨b, off + q * 9 + 7, none⟩ = some (.string s') := (hB.cell (p := ⟨b, _, none⟩) hb).trans (hcell 7 _ rfl)
      have c8 : wr.cell? ⟨b, off + q * 9 + 8, none⟩ = some (.slice A' n' c') := (hB.cell (p := ⟨b, _, none⟩) hb).trans (hcell 8 _ rfl)
      have hBs := hB.size
      have HO := Lib.hid hown
      have HCL := Lib.hid hCl
      have HCV := Lib.hid hCv
      have HDR := Lib.hid hDr
      have hen := HE.out #[.agg #[.int .i64 k, .int .i64 f, .int .i64 t, .int .i64 num, .string s, .int .i64 k', .int .i64 m', .string s', .slice A' n' c']]
      clear hown hCl hCv hDr hD hDq hcell hCq hlq
      go_wp2_with fail
      refine (lcopyT_any _ _ S _ (isL_below HDR.out ((Below.refl _ _).alloc (Nat.le_refl _) _)) HMq.out).mono ?_
      rintro e w1 ⟨cs', rfl, hV1, hb1, hnf⟩
      have hV1' := hV1
      obtain ⟨k3, m3, s3, A3, n3, c3', rfl, _⟩ := hV1'
      dsimp only at hV1 ⊢
      have hO1 := own_below ((HO.out).alloc (.cells #[.int .i64 k, .int .i64 f, .int .i64 t, .int .i64 num, .string s, .int .i64 k', .int .i64 m', .string s', .slice A' n' c'] 43)) hb1
      have HO1 := Lib.hid hO1
      have HV1 := Lib.hid hV1
      have HNF := Lib.hid (hnf _ rfl)
      have HB1 := Lib.hid hb1
      have hz1 : w.heap.size ≤ w1.heap.size := by have := hb1.size; simp at this; omega
      have hlt5 := Lib.hid (fun k hk => (HO.out.lt k hk).2)
      clear hO1 hV1 hb1 hnf hCn hen c0 c1 c2 c3 c4 c5 c6 c7 c8
      go_wp2_with (at_builtin; refine wpList_append_own_at _ rfl _ _ 45 rfl w.heap.size 43 i0 _ 9 104 Tryz.underlying45 hi jz0 jz1 jz2 rfl (by omega) u5 q (flatC C q) rfl (HO1.out.alloc _) ⟨w1.heap.size, 0, none⟩ 1 1 [.int .i64 k, .int .i64 f, .int .i64 t, .int .i64 num, .string s, .int .i64 k3, .int .i64 m3, .string s3, .slice A3 n3 c3'] rfl rfl (cell_nine_new _ _ _ _ _ _ _ _ _ _ _) (isL_one HV1.out) (by unfold maxLen; omega) (by omega) (by simp; omega) ?_; intro v2 w2 hown2 hgrow2 _ hat2; rw [flatC_snoc] at hown2; have HO2 := Lib.hid hown2; have HG2 := Lib.hid hgrow2; have HA2 := Lib.hid hat2; clear hown2 hgrow2 hat2)
      go_roundw
      case rel =>
        refine ⟨q + 1, updC C q [.int .i64 k, .int .i64 f, .int .i64 t, .int .i64 num, .string s, .int .i64 k3, .int .i64 m3, .string s3, .slice A3 n3 c3'], by omega, by go_num, HO2.out, fun i => ?_, fun i hi => ?_, fun i hi u hu => ?_, ?_⟩
        · unfold updC; split
          · rfl
          · exact HCL.out i
        · by_cases e : i = q
          · subst e
            simp only [updC, if_true]
            rw [HLQ.out]
            exact leach_new hBs hlt5.out HB1.out HG2.out HA2.out HV1.out
          · simp only [updC, e, if_false]
            exact leach_step HB1.out HG2.out HA2.out (HCV.out i (by omega))
        · have hbs := HB1.out.size
          simp at hbs
          by_cases e : i = q
          · subst e
            simp only [updC, if_true] at hu
            have hu' : u = .slice A3 n3 c3' := by
              have : some (Value.slice A3 n3 c3') = some u := hu
              injection this with this
              exact this.symm
            subst hu'
            refine HNF.out.fr (((Fr.refl (fun k => u5.ownBlock = some k) w1).alloc _).trans' (Fr.of_grown HG2.out (fun k hk => .inl hk))) (fun b hb hlt => ?_)
            have h9 : (wr.alloc _).heap.size ≤ b := hb
            simp at h9
            refine ⟨fun e => by have := hlt5.out b e; omega, by omega, fun e => ?_⟩
            rcases HA2.out with h | h
            · have := hlt5.out b (by rw [← h]; exact e.symm); omega
            · rw [h] at e
              injection e with e
              simp at e
              omega
          · simp only [updC, e, if_false] at hu
            refine (HCN.out i (by omega) u hu).fr (D := fun k => u5.ownBlock = some k) ?_ (fun b hb hlt => ⟨fun e => hb.2 e.symm, hb.1, fun e => ?_⟩)
            · exact ((((Fr.refl (fun k => u5.ownBlock = some k) wr).alloc _).trans' (Fr.of_below HB1.out)).alloc _).trans' (Fr.of_grown HG2.out (fun k hk => .inl hk))
            · rcases HA2.out with h | h
              · exact hb.2 (by rw [← h]; exact e)
              · rw [h] at e
                injection e with e
                simp at e
                omega
        · exact (((hB.alloc hBs _).trans (HB1.out.mono (by simp; omega))).alloc hz1 _).grown HG2.out (by simp; omega) (fun k hk => (HO.out.lt k hk).1)
      case measure => simp [intOf]; omega
    · obtain rfl : q = n := by omega
      go_wp2_with fail
      go_ret
      exact ⟨_, C, rfl, hown, hCl, hCv, hCn, hB⟩
end Go.Proofs.YtjjfglbcikaicaaGreat
namespace Go.Proofs.YtjjfglbcikaicaaGreat
open Go.RowKit Go.Maps
set_option linter.unusedVariables false
set_option linter.unusedSimpArgs false
/-- a row of letters whose arguments may be written -/
def LRowT (w : World) (base : Nat) (v : Value) (n : Nat) (C : Nat → List Value) (arg : Nat → LT) : Prop := LRow w base v n C arg ∧ ∀ i, i < n → ∀ u, (C i)[8]? = some u → NFt w (fun b => base ≤ b ∧ some b ≠ v.ownBlock) u
theorem LRowT.fr {S : Nat → Prop} {w w' : World} {base n : Nat} {v : Value} {C : Nat → List Value} {arg : Nat → LT} (h : LRowT w base v n C arg) (hf : Fr S w w') (hr : ∀ k, S k → k < base) : LRowT w' base v n C arg :=
  ⟨h.1.fr hf hr, fun i hi u hu => (h.2 i hi u hu).fr hf (fun b hb _ => ⟨fun hs => by have := hr b hs; omega, hb⟩)⟩
theorem LRowT.lower {w : World} {base base' n : Nat} {v : Value} {C : Nat → List Value} {arg : Nat → LT} (h : LRowT w base v n C arg) (hb : base' ≤ base) : LRowT w base' v n C arg :=
  ⟨h.1.lower hb, fun i hi u hu => (h.2 i hi u hu).fr (Fr.refl (fun _ => False) w) (fun b hb2 _ => ⟨fun h => h, by omega, hb2.2⟩)⟩
def PclPostT (p : PclS) (w : World) (v : Value → Value) (e : Ending) (w' : World) : Prop :=
  ∃ A2 c2 A4 c4 C A6 c6 A7 c7, e = .returned (v (.agg #[.int .i64 p.ref, .string p.nm, .slice A2 2 c2, .slice none 0 0, .slice A4 p.box.length c4, .int .i64 p.ticks, .slice A6 p.ws.length c6, .slice A7 p.ls.length c7])) ∧ 2 ≤ c2 ∧ c2 ≤ 9223372036854775807 ∧
    RdV w' (fun b => w.heap.size ≤ b) A2 2 p.st ∧ LRowT w' w.heap.size (.slice A4 p.box.length c4) p.box.length C (nthL p.box) ∧ OwnI w' w.heap.size (.slice A6 p.ws.length c6) p.ws ∧ OwnI w' w.heap.size (.slice A7 p.ls.length c7) p.ls ∧ Below w.heap.size w w'
set_option maxRecDepth 100000 in
set_option maxHeartbeats 8000000 in
theorem pcopyT_any (p : PclS) (cs : List Value) (S : Nat → Prop) (w : World) (H : PclAt w S p cs) (hb : p.box.length ≤ 60) (hm : ∀ i, i < p.box.length → (nthL p.box i).val.many ≤ 4194304) (hs : ∀ i, i < 2 → (p.st i).many ≤ 4194304) (hw : p.ws.length ≤ 1000000) (hl : p.ls.length ≤ 1000000) :
    Calls Tryz.prog 65 #[.agg cs.toArray] w (PclPostT p w id) := by
  obtain ⟨A2, c2, A4, c4, v6, v7, rfl, h1, h2, h3, h4, h5, h6, h7, h8⟩ := H
  obtain ⟨A6, c6, rfl, i1, i2, hn6, R6⟩ := numIn_rd h7
  obtain ⟨A7, c7, rfl, i3, i4, hn7, R7⟩ := numIn_rd h8
  obtain ⟨W, hW⟩ : ∃ W, W = (w.alloc (.cells #[.int .i64 p.ref, .string p.nm, .slice A2 2 c2, .slice none 0 0, .slice A4 p.box.length c4, .int .i64 p.ticks, .slice A6 p.ws.length c6, .slice A7 p.ls.length c7] 82)).alloc (.cells #[.int .i64 0, .string ⟨#[]⟩, .slice none 0 0, .slice none 0 0, .slice none 0 0, .int .i64 0, .slice none 0 0, .slice none 0 0] 82) := ⟨_, rfl⟩
  have HF := Lib.hid (show Below w.heap.size w W by rw [hW]; exact ((Below.refl _ _).alloc (Nat.le_refl _) _).alloc (by simp) _)
  have HZ := Lib.hid (show CellsN W w.heap.size [.int .i64 p.ref, .string p.nm, .slice A2 2 c2, .slice none 0 0, .slice A4 p.box.length c4, .int .i64 p.ticks, .slice A6 p.ws.length c6, .slice A7 p.ls.length c7] by rw [hW]; exact (cellsN_new w _ _).fr (D := fun _ => False) ((Fr.refl _ _).alloc _) (fun h => h))
  have HY := Lib.hid (show CellsN W (w.heap.size + 1) [.int .i64 0, .string ⟨#[]⟩, .slice none 0 0, .slice none 0 0, .slice none 0 0, .int .i64 0, .slice none 0 0, .slice none 0 0] by rw [hW]; simpa using cellsN_new (w.alloc (.cells #[.int .i64 p.ref, .string p.nm, .slice A2 2 c2, .slice none 0 0, .slice A4 p.box.length c4, .int .i64 p.ticks, .slice A6 p.ws.length c6, .slice A7 p.ls.length c7] 82)) [.int .i64 0, .string ⟨#[]⟩, .slice none 0 0, .slice none 0 0, .slice none 0 0, .int .i64 0, .slice none 0 0, .slice none 0 0] 82)
  have hz : w.heap.size + 2 = W.heap.size := by rw [hW]; simp
  have HV := Lib.hid (h5.frame HF.out.size (fun b hb hlt => ⟨hb, HF.out.block b hlt⟩))
  have HL := Lib.hid (h6.frame HF.out.size (fun b hb hlt => ⟨hb, HF.out.block b hlt⟩))
  have H6 := Lib.hid R6
  have H7 := Lib.hid R7
  have HVD := Lib.hid (show RdV W.drew S A2 2 p.st from RdV.frame h5 HF.out.size (fun b hb hlt => ⟨hb, HF.out.block b hlt⟩))
  have HA6 := Lib.hid (show A6 = none → p.ws.length = 0 from hn6)
  have HA7 := Lib.hid (show A7 = none → p.ls.length = 0 from hn7)
  have HWW := Lib.hid hW
  have HM := Lib.hid hm
  have HS := Lib.hid hs
  have z0 := HZ.out.1 0 _ rfl
  have z1 := HZ.out.1 1 _ rfl
  have z2 := HZ.out.1 2 _ rfl
  have z3 := HZ.out.1 3 _ rfl
  have z4 := HZ.out.1 4 _ rfl
  have z5 := HZ.out.1 5 _ rfl
  have z6 := HZ.out.1 6 _ rfl
  have z7 := HZ.out.1 7 _ rfl
  have zf := HZ.out.2.1
  clear h5 h6 h7 h8 R6 R7 hW hm hs hn6 hn7
  go_enter Tryz.func65, Tryz.ntmps65
  go_wp2_with fail
  rw [← HWW.out]
  go_cut [] (fun wx => ∃ A2' c2' A4' c4' C4, CellsN wx w.heap.size [.int .i64 p.ref, .string p.nm, .slice A2' 2 c2', .slice none 0 0, .slice A4' p.box.length c4', .int .i64 p.ticks, .slice A6 p.ws.length c6, .slice A7 p.ls.length c7] ∧ CellsN wx (w.heap.size + 1) [.int .i64 0, .string ⟨#[]⟩, .slice none 0 0, .slice none 0 0, .slice none 0 0, .int .i64 0, .slice none 0 0, .slice none 0 0] ∧ Hid (2 ≤ c2' ∧ c2' ≤ 9223372036854775807 ∧ RdV wx (fun b => W.heap.size ≤ b) A2' 2 p.st) ∧ Hid (LRowT wx W.heap.size (.slice A4' p.box.length c4') p.box.length C4 (nthL p.box)) ∧ Hid (Fr (fun k => k = w.heap.size) W wx))
  case first =>
    go_region_with (first
      | (go_at_call 97; refine (saved_any p.nm 2 c2 A2 p.st S _ (by omega) HVD.out HS.out).mono ?_; rintro e w1 ⟨A2', c2', rfl, q1, q2, q3, hb1⟩; have HB1 := Lib.hid (show Fr (fun _ => False) W w1 from Fr.of_below (below_drew' hb1)); have HQ := Lib.hid (And.intro q1 (And.intro q2 q3)); have HZ1 := Lib.hid (HZ.out.fr HB1.out (fun h => h)); have HY1 := Lib.hid (HY.out.fr HB1.out (fun h => h)); have x4 := HZ1.out.1 4 _ rfl; clear q1 q2 q3 hb1)
      | (go_at_call 55; refine (leachT_any p.box.length c4 A4 (nthL p.box) S w1 (by omega) (HL.out.frame HB1.out.size (fun b hb hlt => ⟨hb, HB1.out.block b hlt (fun h => h)⟩)) HM.out).mono ?_; rintro e w2 ⟨v2, C2, rfl, hown2, hCl2, hCv2, hCn2, hb2⟩; obtain ⟨A4', c4', hv2, _, _, _⟩ := own_any hown2; subst hv2; have HLR := Lib.hid (show LRowT _ _ _ _ _ (nthL p.box) from ⟨LRow.mk (arg := nthL p.box) hown2 hCl2 hCv2, hCn2⟩); have HB2 := Lib.hid (show Fr (fun _ => False) w1 w2 from Fr.of_below hb2); have HZ2 := Lib.hid (HZ1.out.fr HB2.out (fun h => h)); have HY2 := Lib.hid (HY1.out.fr HB2.out (fun h => h)); have u0 := HZ2.out.1 0 _ rfl; have u1 := HZ2.out.1 1 _ rfl; have u2 := HZ2.out.1 2 _ rfl; have u3 := HZ2.out.1 3 _ rfl; have u4 := HZ2.out.1 4 _ rfl; have u5 := HZ2.out.1 5 _ rfl; have u6 := HZ2.out.1 6 _ rfl; have u7 := HZ2.out.1 7 _ rfl; have uf := HZ2.out.2.1; clear hown2 hCl2 hCv2 hCn2 hb2))
    all_goals
      go_wp2_with fail
      go_meet
      refine ⟨A2', c2', A4', c4', C2, cells8_of (by simp [go_sem, u0]) (by simp [go_sem, u1]) (by simp [go_sem, u2]) (by simp [go_sem, u3]) (by simp [go_sem, u4]) (by simp [go_sem, u5]) (by simp [go_sem, u6]) (by simp [go_sem, u7]) (fun o => by simp [go_sem, uf]), HY2.out.fr (D := fun k => k = w.heap.size) ?_ (by omega), Lib.hid ⟨HQ.out.1, HQ.out.2.1, ?_⟩, Lib.hid ?_, Lib.hid ?_⟩
      · iterate 4 (refine Fr.setAt ?_ _)
        exact Fr.refl _ _
      · refine RdV.fr3 (D := fun k => k = w.heap.size) HQ.out.2.2 ?_ (fun k hk => by omega)
        iterate 4 (refine Fr.setAt ?_ _)
        exact HB2.out.weak (fun _ h => h.elim)
      · refine LRowT.fr (S := fun k => k = w.heap.size) (HLR.out.lower (base' := W.heap.size) HB1.out.size) ?_ (fun k hk => by omega)
        iterate 4 (refine Fr.setAt ?_ _)
        exact Fr.refl _ _
      · iterate 4 (refine Fr.setAt ?_ _)
        exact (HB1.out.trans' HB2.out).weak (fun _ h => h.elim)
  case rest =>
    obtain ⟨A2', c2', A4', c4', C4, HZc, HYc, HQ, HLR, HFC⟩ := hcut
    generalize wc = wc1 at *
    have HZC := Lib.hid HZc
    have HYC := Lib.hid HYc
    clear HZc HYc z0 z1 z2 z3 z4 z5 z6 z7 zf HZ HY HV HL HVD
    have z0 := HZC.out.1 0 _ rfl
    have z1 := HZC.out.1 1 _ rfl
    have z2 := HZC.out.1 2 _ rfl
    have z3 := HZC.out.1 3 _ rfl
    have z4 := HZC.out.1 4 _ rfl
    have z5 := HZC.out.1 5 _ rfl
    have z6 := HZC.out.1 6 _ rfl
    have z7 := HZC.out.1 7 _ rfl
    have zf := HZC.out.2.1
    have HR6 := Lib.hid (fun W9 (hf : Fr (fun k => k = w.heap.size) W W9) => show Rd W9 1 (tmC (lst p.ws)) A6 p.ws.length from rd_new H6.out HF.out hf)
    have HR7 := Lib.hid (fun W9 (hf : Fr (fun k => k = w.heap.size) W W9) => show Rd W9 1 (tmC (lst p.ls)) A7 p.ls.length from rd_new H7.out HF.out hf)
    go_wp2_with fail
    go_cut [] (fun wx => ∃ A6' c6' A7' c7', CellsN wx w.heap.size [.int .i64 p.ref, .string p.nm, .slice A2' 2 c2', .slice none 0 0, .slice A4' p.box.length c4', .int .i64 p.ticks, .slice A6' p.ws.length c6', .slice A7' p.ls.length c7'] ∧ CellsN wx (w.heap.size + 1) [.int .i64 0, .string ⟨#[]⟩, .slice none 0 0, .slice none 0 0, .slice none 0 0, .int .i64 0, .slice none 0 0, .slice none 0 0] ∧ Hid (OwnI wx W.heap.size (.slice A6' p.ws.length c6') p.ws) ∧ Hid (OwnI wx W.heap.size (.slice A7' p.ls.length c7') p.ls) ∧ Hid (Fr (fun k => k = w.heap.size) wc1 wx))
    case first =>
      go_region_with (first
        | (go_at_call_of 98 (Value.slice A6 p.ws.length c6); refine (cloneInt A6 p.ws.length c6 (tmC (lst p.ws)) _ (HR6.out _ HFC.out.drew) (tmC_len _) (tmC_one _) HA6.out (by omega)).mono ?_; rintro e w1 ⟨v1, rfl, hown1, hb1⟩; rw [flatC_lst] at hown1; have HO1 := Lib.hid (show OwnI w1 wc1.heap.size v1 p.ws from hown1); obtain ⟨A6', c6', hv1, _, _, _⟩ := own_any hown1; subst hv1; have HB1 := Lib.hid (show Fr (fun _ => False) wc1 w1 from Fr.of_below (below_drew' hb1)); have HZ1 := Lib.hid (HZC.out.fr HB1.out (fun h => h)); have HY1 := Lib.hid (HYC.out.fr HB1.out (fun h => h)); have x7 := HZ1.out.1 7 _ rfl; clear hown1 hb1)
        | (go_at_call_of 98 (Value.slice A7 p.ls.length c7); refine (cloneInt A7 p.ls.length c7 (tmC (lst p.ls)) _ (HR7.out _ (HFC.out.trans' (HB1.out.weak (fun _ h => h.elim)))) (tmC_len _) (tmC_one _) HA7.out (by omega)).mono ?_; rintro e w2 ⟨v2, rfl, hown2, hb2⟩; rw [flatC_lst] at hown2; have HO2 := Lib.hid (show OwnI w2 w1.heap.size v2 p.ls from hown2); obtain ⟨A7', c7', hv2, _, _, _⟩ := own_any hown2; subst hv2; have HB2 := Lib.hid (show Fr (fun _ => False) w1 w2 from Fr.of_below hb2); have HZ2 := Lib.hid (HZ1.out.fr HB2.out (fun h => h)); have HY2 := Lib.hid (HY1.out.fr HB2.out (fun h => h)); have u0 := HZ2.out.1 0 _ rfl; have u1 := HZ2.out.1 1 _ rfl; have u2 := HZ2.out.1 2 _ rfl; have u3 := HZ2.out.1 3 _ rfl; have u4 := HZ2.out.1 4 _ rfl; have u5 := HZ2.out.1 5 _ rfl; have u6 := HZ2.out.1 6 _ rfl; have u7 := HZ2.out.1 7 _ rfl; have uf := HZ2.out.2.1; clear hown2 hb2))
      all_goals
        go_wp2_with fail
        go_meet
        refine ⟨A6', c6', A7', c7', cells8_of (by simp [go_sem, u0]) (by simp [go_sem, u1]) (by simp [go_sem, u2]) (by simp [go_sem, u3]) (by simp [go_sem, u4]) (by simp [go_sem, u5]) (by simp [go_sem, u6]) (by simp [go_sem, u7]) (fun o => by simp [go_sem, uf]), HY2.out.fr (D := fun k => k = w.heap.size) ?_ (by omega), Lib.hid ?_, Lib.hid ?_, Lib.hid ?_⟩
        · iterate 2 (refine Fr.setAt ?_ _)
          exact Fr.refl _ _
        · refine OwnI.fr (S := fun k => k = w.heap.size) (OwnI.mono (base' := W.heap.size) HO1.out (by have := HFC.out.size; omega)) ?_ (fun k hk hq => by have := (HO1.out.blk k hk).1; have := HFC.out.size; omega)
          iterate 2 (refine Fr.setAt ?_ _)
          exact HB2.out.weak (fun _ h => h.elim)
        · refine OwnI.fr (S := fun k => k = w.heap.size) (OwnI.mono (base' := W.heap.size) HO2.out (by have := HFC.out.size; have := HB1.out.size; omega)) ?_ (fun k hk hq => by have := (HO2.out.blk k hk).1; have := HFC.out.size; have := HB1.out.size; omega)
          iterate 2 (refine Fr.setAt ?_ _)
          exact Fr.refl _ _
        · iterate 2 (refine Fr.setAt ?_ _)
          exact (HB1.out.trans' HB2.out).weak (fun _ h => h.elim)
    case rest =>
      obtain ⟨A6', c6', A7', c7', HZd, HYd, HO6, HO7, HFD⟩ := hcut
      have HZD := Lib.hid HZd
      have HYD := Lib.hid HYd
      clear HZd HYd z0 z1 z2 z3 z4 z5 z6 z7 zf HZC HYC HR6 HR7
      have z0 := HZD.out.1 0 _ rfl
      have z1 := HZD.out.1 1 _ rfl
      have z2 := HZD.out.1 2 _ rfl
      have z3 := HZD.out.1 3 _ rfl
      have z4 := HZD.out.1 4 _ rfl
      have z5 := HZD.out.1 5 _ rfl
      have z6 := HZD.out.1 6 _ rfl
      have z7 := HZD.out.1 7 _ rfl
      have y0 := HYD.out.1 0 _ rfl
      have y1 := HYD.out.1 1 _ rfl
      have y2 := HYD.out.1 2 _ rfl
      have y3 := HYD.out.1 3 _ rfl
      have y4 := HYD.out.1 4 _ rfl
      have y5 := HYD.out.1 5 _ rfl
      have y6 := HYD.out.1 6 _ rfl
      have y7 := HYD.out.1 7 _ rfl
      have yf := HYD.out.2.1
      go_wp2_with fail
      refine bodyPost_ret (v := .agg #[.int .i64 p.ref, .string p.nm, .slice A2' 2 c2', .slice none 0 0, .slice A4' p.box.length c4', .int .i64 p.ticks, .slice A6' p.ws.length c6', .slice A7' p.ls.length c7']) (by simp [results, Tryz.results65, go_sem, y0, y1, y2, y3, y4, y5, y6, y7]) rfl ⟨A2', c2', A4', c4', C4, A6', c6', A7', c7', rfl, HQ.out.1, HQ.out.2.1, ?_, ?_, ?_, ?_, ?_⟩
      · refine RdV.lower (B := W.heap.size) (RdV.fr3 (D := fun k => k = w.heap.size ∨ k = w.heap.size + 1) HQ.out.2.2 (Fr.trans' (w1 := wc) (HFD.out.weak (fun _ h => .inl h)) (Fr.weak (S := fun k => k = w.heap.size + 1) ?_ (fun _ h => .inr h))) (fun k hk => by omega)) (by omega)
        iterate 8 (refine Fr.setAt ?_ _)
        exact Fr.refl _ _
      · refine LRowT.lower (base := W.heap.size) (LRowT.fr (S := fun k => k = w.heap.size ∨ k = w.heap.size + 1) HLR.out (Fr.trans' (w1 := wc) (HFD.out.weak (fun _ h => .inl h)) (Fr.weak (S := fun k => k = w.heap.size + 1) ?_ (fun _ h => .inr h))) (fun k hk => by omega)) (by omega)
        iterate 8 (refine Fr.setAt ?_ _)
        exact Fr.refl _ _
      · refine OwnI.fr (S := fun k => k = w.heap.size + 1) (OwnI.mono (base' := w.heap.size) HO6.out (by omega)) ?_ (fun k hk hq => by have := (HO6.out.blk k hk).1; omega)
        iterate 8 (refine Fr.setAt ?_ _)
        exact Fr.refl _ _
      · refine OwnI.fr (S := fun k => k = w.heap.size + 1) (OwnI.mono (base' := w.heap.size) HO7.out (by omega)) ?_ (fun k hk hq => by have := (HO7.out.blk k hk).1; omega)
        iterate 8 (refine Fr.setAt ?_ _)
        exact Fr.refl _ _
      · iterate 8 (refine below_set ?_ (by omega))
        have h1 : Fr (fun k => w.heap.size ≤ k) w W := Fr.of_below HF.out
        exact (h1.trans' ((HFC.out.trans' HFD.out).weak (fun k hk => by omega))).below (fun k hk => hk) (Nat.le_refl _)
set_option maxRecDepth 100000 in
set_option maxHeartbeats 4000000 in
theorem boxT_any {w : World} {X M : Nat → Prop} {base T p : Nat} {P : Int → Nat} {N : NdS} (h : NodeAt w X M base T p P N) {ref : Int} {a : ActS} (ha : N.find ref = some a) :
    Calls Tryz.prog 25 #[.pointer (some ⟨p, 0, none⟩), .int .i64 ref] w fun e w' => ∃ v C, e = .returned (.tuple #[v, .int .i64 0]) ∧ LRowT w' w.heap.size v a.box.length C (nthL a.box) ∧ Below w.heap.size w w' := by
  have hplt := h.p_lt
  obtain ⟨hm, hr⟩ := find_some ha
  have hok := h.ok.act a hm
  obtain ⟨mb, c3, hmb, _, hlk1, hlk2⟩ := h.look
  obtain ⟨pa, rfl, hpl, _, _, _, hlk⟩ := hlk1 ref a ha
  have hlook := hlk w (Fr.refl _ w)
  obtain ⟨pa, b, rb, kb, ib, MA, mb', hpa, -, hA, -⟩ := h.act ha
  subst hpa
  obtain ⟨A2, c2, a2, k1, k2, hR⟩ := hA.a2
  have HC := Lib.hid (leachT_any a.box.length c2 A2 (nthL a.box) _ w (by have := hok.box.1; omega) hR (fun i hi => by have := (hok.box.2.2 _ (nthL_mem hi)).2.2.2.2.2; omega))
  clear h hlk1 hlk2 hlk hA hR hok ha hm
  go_enter Tryz.func25, Tryz.ntmps25
  go_wp2_with fail
  refine HC.out.mono ?_
  rintro e w1 ⟨v, C, rfl, hown, hCl, hCv, hCn, hb2⟩
  have HLR := Lib.hid (show LRowT _ _ _ _ _ (nthL a.box) from ⟨LRow.mk (arg := nthL a.box) hown hCl hCv, hCn⟩)
  have HB := Lib.hid hb2
  clear hown hCl hCv hCn hb2
  go_wp2_with fail
  go_ret2
  exact ⟨v, C, rfl, HLR.out, HB.out⟩
end Go.Proofs.YtjjfglbcikaicaaGreat
namespace Go.Proofs.YtjjfglbcikaicaaGreat
open Go.RowKit Go.Maps
set_option linter.unusedVariables false
set_option linter.unusedSimpArgs false
set_option maxRecDepth 100000 in
set_option maxHeartbeats 8000000 in
theorem parcelT_any {w : World} {X M : Nat → Prop} {base T p : Nat} {P : Int → Nat} {N : NdS} (h : NodeAt w X M base T p P N) {ref : Int} {a : ActS} (ha : N.find ref = some a) (hw : a.waits = true) :
    Calls Tryz.prog 36 #[.pointer (some ⟨p, 0, none⟩), .int .i64 ref] w (PclPostT (pclN N a) w (fun v => .tuple #[v, .int .i64 0])) := by
  obtain ⟨hm, rfl⟩ := find_some ha
  obtain ⟨W, hW⟩ : ∃ W, W = w.alloc (.cells #[.int .i64 0, .string ⟨#[]⟩, .slice none 0 0, .slice none 0 0, .slice none 0 0, .int .i64 0, .slice none 0 0, .slice none 0 0] 82) := ⟨_, rfl⟩
  have hfW : Fr (fun _ => False) w W := by rw [hW]; exact (Fr.refl _ _).alloc _
  have HZ := Lib.hid (show CellsN W w.heap.size [.int .i64 0, .string ⟨#[]⟩, .slice none 0 0, .slice none 0 0, .slice none 0 0, .int .i64 0, .slice none 0 0, .slice none 0 0] by rw [hW]; exact cellsN_new w _ _)
  have HN := Lib.hid (h.new hfW (fun _ h => h))
  have HA := Lib.hid ha
  have HSV := Lib.hid (nsave_any HN.out ha hw)
  have hok := h.ok.act a hm
  have HBX := Lib.hid hok.box
  have HRO := Lib.hid (rowD_ok h.ok.rows.ok a.ref)
  have hzW := hfW.size
  have HF := Lib.hid hfW
  have HWW := Lib.hid hW
  have hplt := HN.out.p_lt
  clear h ha hm hok hW hfW
  go_enter Tryz.func36, Tryz.ntmps36
  go_wp2_with fail
  rw [← HWW.out]
  refine HSV.out.mono ?_
  rintro e w1 ⟨A2, c2, rfl, q1, q2, q3, hb1⟩
  have HQ := Lib.hid (And.intro q1 (And.intro q2 q3))
  have HB1 := Lib.hid (Fr.of_below (S := fun _ => False) hb1)
  clear q1 q2 q3 hb1 HSV
  go_wp2_with fail
  obtain ⟨W2, hW2⟩ : ∃ W2, W2 = w1.alloc (.cells #[.string a.d.nm, .slice A2 2 c2, .slice none 0 0] 80) := ⟨_, rfl⟩
  have hf2 : Fr (fun _ => False) w1 W2 := by rw [hW2]; exact (Fr.refl _ _).alloc _
  have HS2 := Lib.hid (show CellsN W2 w1.heap.size [.string a.d.nm, .slice A2 2 c2, .slice none 0 0] by rw [hW2]; exact cellsN_new w1 _ _)
  have HF2 := Lib.hid (HB1.out.trans' hf2)
  have HFW12 := Lib.hid hf2
  have HN2 := Lib.hid (HN.out.new HF2.out (fun _ h => h))
  have HZ2 := Lib.hid (HZ.out.fr HF2.out (fun h => h))
  obtain ⟨pa, b, rb, kb, ib, MA, mb, hpa, c3, hA, hMA, hlk, -⟩ := HN2.out.act HA.out
  have HLK := Lib.hid hlk
  have HAG := Lib.hid hA
  have HROW := Lib.hid (fun (W9 : World) (hf : Fr (fun _ => False) W2 W9) => row_any HN2.out hf a.ref)
  have l0 := hlk W2.drew ((Fr.refl _ _).drew)
  have l1 := hlk (W2.alloc (.cells #[.int .i64 0, .slice none 0 0, .slice none 0 0] 132)).drew (((Fr.refl _ _).alloc _).drew)
  have c3' : W2.drew.cell? ⟨p, 3, none⟩ = some (.map (some mb)) := c3
  have hplt2 := HN2.out.p_lt
  rw [← hW2]
  clear hW2 hf2 hpa hA hMA hlk
  go_cut [8, 9] (fun v8 v9 wx => v8 = .pointer (some ⟨pa, 0, none⟩) ∧ ∃ q A6 c6 A7 c7, v9 = .pointer (some ⟨q, 0, none⟩) ∧ CellsN wx q [.int .i64 (rowD N.rows a.ref).ref, .slice A6 (rowD N.rows a.ref).ws.length c6, .slice A7 (rowD N.rows a.ref).ls.length c7] ∧ Hid (NumIn wx (fun b => b < W2.heap.size) (.slice A6 (rowD N.rows a.ref).ws.length c6) (rowD N.rows a.ref).ws) ∧ Hid (NumIn wx (fun b => b < W2.heap.size) (.slice A7 (rowD N.rows a.ref).ls.length c7) (rowD N.rows a.ref).ls) ∧ Hid (Fr (fun _ => False) W2 wx))
  case first =>
    go_region_with (first
      | (go_at_call 64; refine (HROW.out _ (by (repeat' first | with_reducible exact Fr.refl _ _ | (with_reducible refine Fr.setEq ?_ _) | (with_reducible refine Fr.setNew ?_ _) | with_reducible refine Fr.alloc ?_ _ | with_reducible refine Fr.drewN ?_ _ | with_reducible refine Fr.drew ?_))).mono ?_; rintro e w3 ⟨v1, v2, rfl, n1, n2, hb3⟩; have HN1 := Lib.hid n1; have HN2' := Lib.hid n2; obtain ⟨A6, c6, e6, -⟩ := n1; obtain ⟨A7, c7, e7, -⟩ := n2; subst e6; subst e7; have HF3 := Lib.hid (show Fr (fun _ => False) W2 w3 from (show Fr (fun _ => False) W2 _ by (repeat' first | with_reducible exact Fr.refl _ _ | (with_reducible refine Fr.setEq ?_ _) | (with_reducible refine Fr.setNew ?_ _) | with_reducible refine Fr.alloc ?_ _ | with_reducible refine Fr.drewN ?_ _ | with_reducible refine Fr.drew ?_)).trans' (Fr.of_below (below_drew' hb3))); (first | (have HCQ := Lib.hid ((cellsN_new W2 [.int .i64 0, .slice none 0 0, .slice none 0 0] 132).fr (D := fun _ => False) (Fr.of_below (below_drew' hb3)) (fun h => h)); have k0 := HCQ.out.1 0 _ rfl; have k1 := HCQ.out.1 1 _ rfl; have k2 := HCQ.out.1 2 _ rfl; have kf := HCQ.out.2.1) | skip); have l3 := HLK.out w3 (HF3.out.weak (fun _ h => h.elim)); have l4 := HLK.out (w3.alloc (.cells #[.int .i64 0, .slice none 0 0, .slice none 0 0] 132)) ((HF3.out.alloc _).weak (fun _ h => h.elim)); have d3 := HF3.out.cell c3 (fun h => h); have hp3 := Nat.lt_of_lt_of_le hplt2 HF3.out.size; clear hb3))
    all_goals
      go_wp2_with fail
      go_meet
      refine ⟨rfl, ?_⟩
      first
        | (refine ⟨w3.heap.size, A6, c6, A7, c7, (by with_reducible rfl), ?_, ?_, ?_, ?_⟩
           · exact cellsN_new w3 [_, _, _] _
           · exact Lib.hid (HN1.out.fr (S := fun _ => False) ((Fr.refl _ _).alloc _) (fun _ _ h => h) (fun _ h => h))
           · exact Lib.hid (HN2'.out.fr (S := fun _ => False) ((Fr.refl _ _).alloc _) (fun _ _ h => h) (fun _ h => h))
           · exact Lib.hid (HF3.out.alloc _))
        | (refine ⟨W2.heap.size, A6, c6, A7, c7, (by with_reducible rfl), ?_, ?_, ?_, ?_⟩
           · exact cells3_of (set_other (set_other (set_this k0) (by decide)) (by decide)) (set_other (set_this (set_other k1 (by decide))) (by decide)) (set_this (set_other (set_other k2 (by decide)) (by decide))) (fun o => set_fz (set_fz (set_fz kf)) o)
           · refine Lib.hid (HN1.out.fr (S := fun k => k = W2.heap.size) ?_ (fun b hb e => by have h1 : b < W2.heap.size := hb; omega) (fun _ h => h))
             iterate 3 (refine Fr.setAt ?_ _)
             exact Fr.refl _ _
           · refine Lib.hid (HN2'.out.fr (S := fun k => k = W2.heap.size) ?_ (fun b hb e => by have h1 : b < W2.heap.size := hb; omega) (fun _ h => h))
             iterate 3 (refine Fr.setAt ?_ _)
             exact Fr.refl _ _
           · exact Lib.hid (((HF3.out.set (Or.inr (Nat.le_refl _)) _).set (Or.inr (Nat.le_refl _)) _).set (Or.inr (Nat.le_refl _)) _))
  case rest =>
    obtain ⟨rfl, q, A6, c6, A7, c7, rfl, HQc, HN6, HN7, HFc⟩ := hcut
    have s0 := (HS2.out.fr HFc.out (fun h => h)).1 0 _ rfl
    have s1 := (HS2.out.fr HFc.out (fun h => h)).1 1 _ rfl
    have s2 := (HS2.out.fr HFc.out (fun h => h)).1 2 _ rfl
    have q1 := HQc.1 1 _ rfl
    have q2 := HQc.1 2 _ rfl
    have hAc := HAG.out.fr (X' := X) HFc.out (fun _ h => h.elim) (fun k hk => .inl hk) (fun _ h => h.elim) (Nat.le_refl _) (fun _ _ h => h)
    obtain ⟨A4, c4, a2, k1, k2, k3⟩ := hAc.a2
    have a5 := hAc.a5
    have HBX2 := Lib.hid (And.intro k1 (And.intro k2 k3))
    have hpl := hAc.lt.1
    have hsl : w1.heap.size < wc.heap.size := (HS2.out.fr HFc.out (fun h => h)).2.2
    have hql := HQc.2.2
    have HZc := Lib.hid (HZ2.out.fr HFc.out (fun h => h))
    have HFA := Lib.hid ((HB1.out.trans' (show Fr (fun _ => False) w1 W2 from HFW12.out)).trans' HFc.out)
    have HCP := Lib.hid (fun (W9 : World) (hf : Fr (fun _ => False) wc W9) => pcopyT_any (pclN N a) [.int .i64 a.ref, .string a.d.nm, .slice A2 2 c2, .slice none 0 0, .slice A4 a.box.length c4, .int .i64 a.ticks, .slice A6 (rowD N.rows a.ref).ws.length c6, .slice A7 (rowD N.rows a.ref).ls.length c7] (fun _ => True) W9
      ⟨A2, c2, A4, c4, _, _, rfl, HQ.out.1, HQ.out.2.1, HBX2.out.1, HBX2.out.2.1, HQ.out.2.2.frame (Nat.le_trans HFW12.out.size (Nat.le_trans HFc.out.size hf.size)) (fun b hb hlt => ⟨trivial, ((HFW12.out.trans' HFc.out).trans' hf).block b hlt (fun h => h)⟩), HBX2.out.2.2.frame hf.size (fun b hb hlt => ⟨trivial, hf.block b hlt (fun h => h)⟩), HN6.out.fr hf (fun _ _ h => h) (fun _ _ => trivial), HN7.out.fr hf (fun _ _ h => h) (fun _ _ => trivial)⟩
      HBX.out.1 (fun i hi => by have := (HBX.out.2.2 _ (nthL_mem hi)).2.2.2.2.2; have h2 : (nthL (pclN N a).box i).val.many = (nthL a.box i).val.many := rfl; omega) (fun i hi => by show (topV a.d.r i).many ≤ 4194304; unfold topV; split <;> simp [vLeaf, VT.many, sumTo]) (by have := HRO.out.1; show (rowD N.rows a.ref).ws.length ≤ 1000000; omega) (by have := HRO.out.2; show (rowD N.rows a.ref).ls.length ≤ 1000000; omega))
    clear hAc k1 k2 k3 HQc l0 l1 c3' c3
    go_wp2_with fail
    go_region
    go_wp2_with fail
    refine (HCP.out _ (by (repeat' first | with_reducible exact Fr.refl _ _ | (with_reducible refine Fr.setEq ?_ _) | (with_reducible refine Fr.setNew ?_ _) | with_reducible refine Fr.alloc ?_ _ | with_reducible refine Fr.drewN ?_ _ | with_reducible refine Fr.drew ?_))).mono ?_
    rintro e w5 ⟨B2, d2, B4, d4, C4, B6, d6, B7, d7, rfl, g1, g2, g3, g4, g5, g6, hb5⟩
    simp only [id]
    have hf5 : Fr (fun _ => False) wc w5 := (show Fr (fun _ => False) wc _ by (repeat' first | with_reducible exact Fr.refl _ _ | (with_reducible refine Fr.setEq ?_ _) | (with_reducible refine Fr.setNew ?_ _) | with_reducible refine Fr.alloc ?_ _ | with_reducible refine Fr.drewN ?_ _ | with_reducible refine Fr.drew ?_)).trans' (Fr.of_below hb5)
    have HZ5 := Lib.hid (HZc.out.fr hf5 (fun h => h))
    have hzz : W.heap.size ≤ (wc.alloc (.cells #[.int .i64 a.ref, .string a.d.nm, .slice A2 2 c2, .slice none 0 0, .slice A4 a.box.length c4, .int .i64 a.ticks, .slice A6 (rowD N.rows a.ref).ws.length c6, .slice A7 (rowD N.rows a.ref).ls.length c7] 82)).drew.heap.size := by
      have h1 := HFA.out.size
      show W.heap.size ≤ (wc.alloc _).heap.size
      simp
      omega
    have hq0 : w.heap.size < W.heap.size := HZ.out.2.2
    have hlow : w.heap.size ≤ (wc.alloc (.cells #[.int .i64 a.ref, .string a.d.nm, .slice A2 2 c2, .slice none 0 0, .slice A4 a.box.length c4, .int .i64 a.ticks, .slice A6 (rowD N.rows a.ref).ws.length c6, .slice A7 (rowD N.rows a.ref).ls.length c7] 82)).drew.heap.size := by omega
    have HG3 := Lib.hid (RdV.lower g3 (by exact hzz))
    have HG4 := Lib.hid (LRowT.lower g4 (by exact hzz))
    have HG5 := Lib.hid (OwnI.mono (base' := W.heap.size) g5 hzz)
    have HG6 := Lib.hid (OwnI.mono (base' := W.heap.size) g6 hzz)
    have HF5 := Lib.hid ((HF.out.trans' HFA.out).trans' hf5)
    have z0 := HZ5.out.1 0 _ rfl
    have z1 := HZ5.out.1 1 _ rfl
    have z2 := HZ5.out.1 2 _ rfl
    have z3 := HZ5.out.1 3 _ rfl
    have z4 := HZ5.out.1 4 _ rfl
    have z5 := HZ5.out.1 5 _ rfl
    have z6 := HZ5.out.1 6 _ rfl
    have z7 := HZ5.out.1 7 _ rfl
    have zf := HZ5.out.2.1
    clear g3 g4 g5 g6 hb5 hf5 hzz hlow HCP
    go_wp2_with fail
    refine bodyPost_ret (v := .tuple #[.agg #[.int .i64 a.ref, .string a.d.nm, .slice B2 2 d2, .slice none 0 0, .slice B4 a.box.length d4, .int .i64 a.ticks, .slice B6 (rowD N.rows a.ref).ws.length d6, .slice B7 (rowD N.rows a.ref).ls.length d7], .int .i64 0]) (by simp [results, Tryz.results36, go_sem, z0, z1, z2, z3, z4, z5, z6, z7, pclN]) rfl ⟨B2, d2, B4, d4, C4, B6, d6, B7, d7, rfl, g1, g2, ?_, ?_, ?_, ?_, ?_⟩
    · refine RdV.lower (B := W.heap.size) (RdV.fr3 (D := fun k => k = w.heap.size) HG3.out ?_ (fun k hk => by omega)) (by omega)
      iterate 8 (refine Fr.setAt ?_ _)
      exact Fr.refl _ _
    · refine LRowT.lower (base := W.heap.size) (LRowT.fr (S := fun k => k = w.heap.size) HG4.out ?_ (fun k hk => by omega)) (by omega)
      iterate 8 (refine Fr.setAt ?_ _)
      exact Fr.refl _ _
    · refine OwnI.fr (S := fun k => k = w.heap.size) (OwnI.mono (base' := w.heap.size) HG5.out (by omega)) ?_ (fun k hk hq => by have := (HG5.out.blk k hk).1; omega)
      iterate 8 (refine Fr.setAt ?_ _)
      exact Fr.refl _ _
    · refine OwnI.fr (S := fun k => k = w.heap.size) (OwnI.mono (base' := w.heap.size) HG6.out (by omega)) ?_ (fun k hk hq => by have := (HG6.out.blk k hk).1; omega)
      iterate 8 (refine Fr.setAt ?_ _)
      exact Fr.refl _ _
    · iterate 8 (refine below_set ?_ (Nat.le_refl _))
      exact HF5.out.below (fun _ h => h.elim) (Nat.le_refl _)
end Go.Proofs.YtjjfglbcikaicaaGreat
namespace Go.Proofs.YtjjfglbcikaicaaGreat
open Go.RowKit
set_option linter.unusedVariables false
set_option linter.unusedSimpArgs false
/-- the script: a wait for -7 -/
def scrO : List Stp := [⟨6, 0, -1, [-7]⟩]
/-- where it waits -/
def ordD (r : Int) : DiaS := ⟨⟨#[48]⟩, scrO, ⟨0, 0, r, true, false, false, 7, -1, ⟨#[]⟩⟩, 7, -1⟩
def ordA (r : Int) (l : List LT) (pos : Nat) : ActS := ⟨r, ordD r, l, pos, true, -1, fun x => x == 0⟩
/-- the node with one that waits -/
def ordN (id fuel : Nat) (l : List LT) : NdS := { newN id [scrO] fuel with acts := [ordA (id * 1000 + 1) l l.length], rows := addR [] (id * 1000 + 1), spawned := 1, last := id * 1000 + 1 }
def ord0 (id fuel : Nat) : NdS := { newN id [scrO] fuel with acts := [⟨id * 1000 + 1, newD ⟨#[48]⟩ scrO 0 0 (id * 1000 + 1), [], 0, false, 0, fun _ => false⟩], rows := addR [] (id * 1000 + 1), spawned := 1 }
/-- no letter that it takes -/
def NoTake (x : LT) : Prop := vkind x.says ≠ 2
theorem offer_ord (r : Int) {v : VT} (h : vkind v ≠ 2) : offerD (ordD r) v = (ordD r, false) := by
  have h2 : offerR scrO (ordD r).r (vkind v) (vnum v) = ((ordD r).r, false) := by
    unfold offerR
    rw [if_pos (show (ordD r).r.waiting = true from rfl), if_neg]
    rintro (e | e)
    · cases e
    · exact h e.1
  unfold offerD
  rw [if_pos (show (ordD r).dk = 7 from rfl)]
  dsimp only
  rw [show (ordD r).l = scrO from rfl, h2]
  rfl
theorem goA_ord (r : Int) {l : List LT} {pos : Nat} (h : ∀ x, x ∈ l → NoTake x) : goA (ordA r l pos) = (ordA r l l.length, false) := by
  have hp : pickI (ordA r l pos).d (ordA r l pos).box ((ordA r l pos).box.length + 1) (ordA r l pos).pos = none := pickI_none _ _ (fun j h1 h2 => by
    show (offerD (ordD r) (nthL l j).says).2 = false
    rw [offer_ord r (h _ (nthL_mem h2))])
  unfold goA
  rw [if_pos (show (ordA r l pos).waits = true from rfl)]
  unfold wakeA
  rw [hp]
  rfl
/-- a turn of one that waits -/
theorem loop_ord {N : NdS} {r : Int} {l : List LT} {pos : Nat} (k : Nat) (ha : N.acts = [ordA r l pos]) (h : ∀ x, x ∈ l → NoTake x) : loopN (k + 1) N r = { N with acts := [ordA r l l.length] } := by
  have hf : N.find r = some (ordA r l pos) := by
    unfold NdS.find
    rw [ha]
    exact List.find?_cons_of_pos (by simp [ordA])
  have hh : N.has r = true := by unfold NdS.has; rw [hf]; rfl
  have hg := goA_ord r (pos := pos) h
  have hs : stepN N r = ({ N with acts := [ordA r l l.length] }, false) := by
    rw [stepN_no hf (by rw [hg]), hg]
    unfold NdS.setA
    rw [ha]
    show ({ N with acts := [if (r == r) = true then _ else _] }, false) = _
    rw [if_pos (by simp)]
  unfold loopN
  rw [if_pos hh, hs, if_neg Bool.false_ne_true]
theorem spawn_ord {id fuel : Nat} : spawnN (newN id [scrO] fuel) ⟨#[48]⟩ = (ord0 id fuel, (id : Int) * 1000 + 1, 0) := by
  unfold spawnN
  have hm : makeN (newN id [scrO] fuel).scr ⟨#[48]⟩ = some scrO := by kernel_rfl
  rw [hm]
  dsimp only
  have hr : (newN (id : Int) [scrO] fuel).id * 1000 + ((newN (id : Int) [scrO] fuel).spawned : Int) + 1 = (id : Int) * 1000 + 1 := by
    show (id : Int) * 1000 + ((0 : Nat) : Int) + 1 = _
    omega
  rw [hr]
  rfl
theorem put_ord {N : NdS} {a : ActS} {x : LT} (ha : N.acts = [a]) (hk : x.kind = 1) (ht : x.to = a.ref) (hl : a.box.length < 60) : putN N x = ({ N with acts := [{ a with box := a.box ++ [x] }] }, 0) := by
  have hf : N.find x.to = some a := by
    unfold NdS.find
    rw [ha, ht]
    exact List.find?_cons_of_pos (by simp)
  unfold putN
  rw [if_neg (by omega), hf]
  dsimp only
  rw [if_neg (by omega)]
  unfold deliverN deliverW
  rw [if_pos (.inl hk), hf]
  dsimp only
  have hp : putBox a x = { a with box := a.box ++ [x] } := by
    unfold putBox
    rw [if_neg (by omega)]
  rw [hp]
  unfold NdS.setA
  rw [ha]
  show ({ N with acts := [if (a.ref == a.ref) = true then _ else _] }, (0 : Int)) = _
  rw [if_pos (by simp)]
theorem turn_one {N : NdS} {a : ActS} (ha : N.acts = [a]) (hc : canA a = true) : turnN N = (loopN N.fuel { N with last := a.ref } a.ref, a.ref, 0) := by
  have hr : readyN N = [a.ref] := by
    unfold readyN
    rw [ha]
    rw [List.filter_cons_of_pos hc]
    rfl
  unfold turnN
  rw [hr, if_neg (by simp)]
  have hn : nextI [a.ref] N.last = a.ref := by
    unfold nextI
    by_cases h : N.last < a.ref
    · simp [h]
    · simp [h]
  dsimp only
  rw [hn]
/-- the first turn -/
theorem turn_ord0 {id fuel : Nat} {l : List LT} (hf : 2 ≤ fuel) (h : ∀ x, x ∈ l → NoTake x) : (turnN { ord0 id fuel with acts := [⟨id * 1000 + 1, newD ⟨#[48]⟩ scrO 0 0 (id * 1000 + 1), l, 0, false, 0, fun _ => false⟩] }).1 = ordN id fuel l := by
  obtain ⟨f, rfl⟩ : ∃ f, fuel = f + 2 := ⟨fuel - 2, by omega⟩
  rw [turn_one (a := ⟨id * 1000 + 1, newD ⟨#[48]⟩ scrO 0 0 (id * 1000 + 1), l, 0, false, 0, fun _ => false⟩) rfl rfl]
  show loopN (f + 1 + 1) _ _ = _
  generalize hr : (id : Int) * 1000 + 1 = r
  have hh : ∀ N : NdS, ∀ a : ActS, N.acts = [a] → a.ref = r → N.find r = some a := fun N a e1 e2 => by
    unfold NdS.find
    rw [e1]
    exact List.find?_cons_of_pos (by simpa using e2)
  have hs : ∀ N : NdS, N.fuel = f + 2 → N.acts = [⟨r, newD ⟨#[48]⟩ scrO 0 0 r, l, 0, false, 0, fun _ => false⟩] → stepN N r = ({ N with acts := [ordA r l 0] }, true) := fun N e1 e2 => by
    have hf0 := hh N _ e2 rfl
    rw [stepN_go hf0 rfl]
    have hd : runD N.fuel (goA ⟨r, newD ⟨#[48]⟩ scrO 0 0 r, l, 0, false, 0, fun _ => false⟩).1.d = (ordD r, ⟨7, -1, ⟨#[]⟩, 0, 0⟩) := by
      rw [e1]
      rfl
    unfold ranA
    rw [hd]
    unfold armN
    simp only [show ((7 : Int) = 2) = False by simp, show ((7 : Int) = 3) = False by simp, show ((7 : Int) = 5) = False by simp, show ((7 : Int) = 6) = False by simp, show ((7 : Int) = 4) = False by simp, if_false, if_true]
    unfold NdS.setA
    simp only [e2, goA, List.map, Bool.false_eq_true, if_false, waitA, BEq.rfl, beq_self_eq_true, if_true]
    simp
    rfl
  unfold loopN
  rw [if_pos (by unfold NdS.has; rw [hh _ _ rfl rfl]; rfl), hs _ rfl rfl]
  rw [if_pos rfl, loop_ord f rfl h]
  unfold ordN ord0
  rw [hr]
/-- a letter more, and a turn -/
theorem turn_ordN {id fuel : Nat} {l : List LT} {x : LT} (hf : 1 ≤ fuel) (h : ∀ y, y ∈ l → NoTake y) (hx : NoTake x) (hk : x.kind = 1) (ht : x.to = id * 1000 + 1) (hl : l.length < 60) : (putN (ordN id fuel l) x).2 = 0 ∧ (turnN (putN (ordN id fuel l) x).1).1 = ordN id fuel (l ++ [x]) := by
  have hp := put_ord (N := ordN id fuel l) (a := ordA (id * 1000 + 1) l l.length) rfl hk ht hl
  rw [hp]
  refine ⟨rfl, ?_⟩
  have hc : canA { ordA (id * 1000 + 1) l l.length with box := (ordA (id * 1000 + 1) l l.length).box ++ [x] } = true := by
    unfold canA
    have : l.length < (l ++ [x]).length := by simp
    show (!true || decide (l.length < (l ++ [x]).length) || _) = true
    rw [decide_eq_true this]
    rfl
  rw [turn_one (a := { ordA (id * 1000 + 1) l l.length with box := (ordA (id * 1000 + 1) l l.length).box ++ [x] }) rfl hc]
  obtain ⟨f, rfl⟩ : ∃ f, fuel = f + 1 := ⟨fuel - 1, by omega⟩
  show loopN (f + 1) _ (id * 1000 + 1) = _
  rw [loop_ord (r := id * 1000 + 1) (l := l ++ [x]) (pos := l.length) f rfl (fun y hy => by
    rcases List.mem_append.1 hy with hy | hy
    · exact h y hy
    · rw [List.mem_singleton] at hy
      rw [hy]
      exact hx)]
  rfl
end Go.Proofs.YtjjfglbcikaicaaGreat
namespace Go.Proofs.YtjjfglbcikaicaaGreat
open Go.RowKit
set_option linter.unusedVariables false
set_option linter.unusedSimpArgs false
/-- the node behind the letters L -/
def ordS (id fuel : Nat) (L : List LT) : NdS := if L = [] then ord0 id fuel else ordN id fuel L
/-- a letter as the law sends it -/
def ordX (id : Nat) (x : LT) : LT := ⟨1, x.frm, id * 1000 + 1, x.num, x.text, if vkind x.val = 2 then vLeaf 0 0 else x.val⟩
theorem ordX_no (id : Nat) (x : LT) : NoTake (ordX id x) := by
  unfold NoTake
  rw [says_val (show ¬ (ordX id x).kind = 2 from (fun e => by cases e))]
  show vkind (if vkind x.val = 2 then vLeaf 0 0 else x.val) ≠ 2
  split
  · intro e; cases e
  · rename_i h; exact h
theorem ordS_up {id fuel : Nat} {L : List LT} {x : LT} (hf : 2 ≤ fuel) (h : ∀ y, y ∈ L → NoTake y) (hx : NoTake x) (hk : x.kind = 1) (ht : x.to = (id : Int) * 1000 + 1) (hl : L.length < 60) : (putN (ordS id fuel L) x).2 = 0 ∧ (turnN (putN (ordS id fuel L) x).1).1 = ordS id fuel (L ++ [x]) := by
  have e2 : ordS id fuel (L ++ [x]) = ordN id fuel (L ++ [x]) := by
    unfold ordS
    rw [if_neg (by simp)]
  rw [e2]
  by_cases h0 : L = []
  · subst h0
    have e1 : ordS id fuel [] = ord0 id fuel := by
      unfold ordS
      rw [if_pos rfl]
    rw [e1]
    have hp := put_ord (N := ord0 id fuel) (a := ⟨(id : Int) * 1000 + 1, newD ⟨#[48]⟩ scrO 0 0 ((id : Int) * 1000 + 1), [], 0, false, 0, fun _ => false⟩) rfl hk ht (by show 0 < 60; omega)
    rw [hp]
    exact ⟨rfl, turn_ord0 (l := [x]) hf (fun y hy => by rw [List.mem_singleton] at hy; rw [hy]; exact hx)⟩
  · have e1 : ordS id fuel L = ordN id fuel L := by
      unfold ordS
      rw [if_neg h0]
    rw [e1]
    exact turn_ordN (by omega) h hx hk ht hl
theorem ordS_find {id fuel : Nat} {L : List LT} : ∃ a, (ordS id fuel L).find ((id : Int) * 1000 + 1) = some a ∧ a.box = L := by
  unfold ordS
  split
  · rename_i h
    subst h
    exact ⟨⟨(id : Int) * 1000 + 1, newD ⟨#[48]⟩ scrO 0 0 ((id : Int) * 1000 + 1), [], 0, false, 0, fun _ => false⟩, List.find?_cons_of_pos (by simp), rfl⟩
  · exact ⟨ordA ((id : Int) * 1000 + 1) L L.length, List.find?_cons_of_pos (by simp [ordA]), rfl⟩
theorem scrO_wf : ∀ l, l ∈ [scrO] → StpsWf l := fun l hl => by
  rw [List.mem_singleton] at hl
  subst hl
  intro s hs
  simp [scrO] at hs
  subst hs
  exact ⟨wf0, show Wf (-1) from Wf.of (by decide) (by decide)⟩
/-- a row of letters that the law itself made; their values lie in blocks of S -/
structure SentR (w : World) (base : Nat) (S : Nat → Prop) (v : Value) (L : List LT) (C : Nat → List Value) : Prop where
  row : w.ownsRow base 43 9 v L.length (flatC C L.length)
  len : ∀ i, (C i).length = 9
  each : ∀ i, i < L.length → (nthL L i).isL w S (C i)
theorem SentR.nil (w : World) (base : Nat) (S : Nat → Prop) : SentR w base S (.slice none 0 0) [] (fun _ => List.replicate 9 (.int .i64 0)) := ⟨World.ownsRow_nil _ _ _ _, fun _ => rfl, fun i hi => absurd hi (by show ¬ i < 0; omega)⟩
theorem SentR.fr {w w' : World} {base : Nat} {S D : Nat → Prop} {v : Value} {L : List LT} {C : Nat → List Value} (h : SentR w base S v L C) (hf : Fr D w w') (hr : ∀ k, v.ownBlock = some k → ¬ D k) (hS : ∀ k, S k → ¬ D k) : SentR w' base S v L C :=
  ⟨hf.row h.row hr, h.len, fun i hi => isL_frame hf.size (fun b hb hlt => ⟨hb, hf.block b hlt (hS b hb)⟩) (h.each i hi)⟩
theorem isL_weak {w : World} {S S' : Nat → Prop} {l : LT} {cs : List Value} (h : l.isL w S cs) (hS : ∀ b, b < w.heap.size → S b → S' b) : l.isL w S' cs := isL_frame (Nat.le_refl _) (fun b hs hlt => ⟨hS b hlt hs, rfl⟩) h
theorem SentR.rd {w : World} {base n c : Nat} {A : Option Addr} {S : Nat → Prop} {L : List LT} {C : Nat → List Value} (h : SentR w base S (.slice A n c) L C) : n = L.length ∧ RdL w (fun _ => True) A L.length (nthL L) := by
  obtain ⟨A', c', hv, _⟩ := own_any h.row
  injection hv with e1 e2 e3
  subst e1 e2 e3
  refine ⟨rfl, fun h0 => ?_⟩
  obtain ⟨g, cap, hv, hb, hlt, _⟩ := own_form h.row h0
  injection hv with e1 e2 e3
  subst e1 e3
  exact ⟨g, 0, rfl, hlt, trivial, C, fun i hi => ⟨isL_weak (h.each i hi) (fun _ _ _ => trivial), fun j u hu => by
    have hj : j < 9 := by
      rcases Nat.lt_or_ge j 9 with hh | hh
      · exact hh
      · rw [List.getElem?_eq_none (by rw [h.len]; exact hh)] at hu; cases hu
    have := own_cellC h.row h.len hi hj
    rw [Nat.zero_add, this]
    exact hu⟩⟩
/-- a letter more -/
theorem SentR.snoc {w w' : World} {base : Nat} {S : Nat → Prop} {v v' : Value} {L : List LT} {C : Nat → List Value} {x : LT} {cs : List Value} (h : SentR w base S v L C) (hx : x.isL w S cs) (hg : w.grownBy w' v.ownBlock) (hS : ∀ k, v.ownBlock = some k → ¬ S k) (hr : w'.ownsRow base 43 9 v' (L.length + 1) (flatC C L.length ++ cs)) :
    SentR w' base S v' (L ++ [x]) (fun i => if i = L.length then cs else C i) := by
  have hl9 := isL_len hx
  refine ⟨?_, fun i => ?_, fun i hi => ?_⟩
  · rw [List.length_append]
    have e : flatC (fun i => if i = L.length then cs else C i) (L.length + [x].length) = flatC C L.length ++ cs := by
      show flatC (fun i => if i = L.length then cs else C i) (L.length + 1) = _
      rw [flatC]
      congr 1
      · exact flatC_congr fun k hk => by rw [if_neg (by omega)]
      · rw [if_pos rfl]
    rw [e]
    exact hr
  · by_cases e : i = L.length
    · rw [if_pos e]; exact hl9
    · rw [if_neg e]; exact h.len i
  · have hfr : ∀ (l : LT) (c : List Value), l.isL w S c → l.isL w' S c := fun l c hl => isL_frame hg.size (fun b hb hlt => ⟨hb, hg.block b hlt (fun e => hS b e.symm hb)⟩) hl
    rw [List.length_append] at hi
    have hi' : i < L.length + 1 := hi
    by_cases e : i = L.length
    · subst e
      rw [if_pos rfl]
      have : nthL (L ++ [x]) L.length = x := by unfold nthL; simp
      rw [this]
      exact hfr x cs hx
    · rw [if_neg e]
      have : nthL (L ++ [x]) i = nthL L i := by
        unfold nthL
        rw [List.getD_eq_getElem?_getD, List.getD_eq_getElem?_getD, List.getElem?_append_left (by omega)]
      rw [this]
      exact hfr _ _ (h.each i (by omega))
structure OrdAtW (W0 : World) (base p T id fuel : Nat) (wr : World) (P : Int → Nat) (X M : Nat → Prop) (v : Value) (L : List LT) (C : Nat → List Value) : Prop where
  fr : Fr (fun k => W0.heap.size ≤ k) W0 wr
  ml : ∀ k, M k → W0.heap.size ≤ k
  nd : NodeAt wr X M base T p P (ordS id fuel L)
  no : ∀ y, y ∈ L → NoTake y
  row : SentR wr base (fun k => k < W0.heap.size) v L C
  blk : ∀ k, v.ownBlock = some k → X k ∧ ¬ M k
section
variable {W0 : World} {base p T id fuel : Nat} {w w' : World} {P P' : Int → Nat} {X M X' M' : Nat → Prop} {v : Value} {L : List LT} {C : Nat → List Value}
theorem OrdAtW.new (h : OrdAtW W0 base p T id fuel w P X M v L C) (hf : Fr (fun _ => False) w w') : OrdAtW W0 base p T id fuel w' P X M v L C :=
  ⟨h.fr.trans hf (fun _ h => h.elim), h.ml, h.nd.new hf (fun _ h => h), h.no, h.row.fr hf (fun _ _ h => h) (fun _ _ h => h), h.blk⟩
/-- a letter was put, it is sent, and a turn -/
theorem OrdAtW.step {N5 : NdS} {w5 w6 w7 : World} {x : LT} {cs : List Value} {v' : Value} {T' : Nat} (h : OrdAtW W0 base p T id fuel w P X M v L C) (hb : W0.heap.size ≤ base) (hx : x.isL w (fun k => k < W0.heap.size) cs) (hnx : NoTake x) (hg1 : Gr X M w X' M' w5) (hn1 : NodeAt w5 X' M' base T' p P N5) (ha : Fr (fun _ => False) w5 w6)
    (hg : w6.grownBy w7 v.ownBlock) (hr : w7.ownsRow base 43 9 v' (L.length + 1) (flatC C L.length ++ cs)) (hat : v'.ownBlock = v.ownBlock ∨ ∃ q, v'.ownBlock = some q ∧ w6.heap.size ≤ q) :
    Fr (fun k => W0.heap.size ≤ k) W0 w7 ∧ (∀ k, M' k → W0.heap.size ≤ k) ∧ (∃ X7, NodeAt w7 X7 M' base T' p P N5 ∧ (∀ k, v'.ownBlock = some k → X7 k ∧ ¬ M' k)) ∧ SentR w7 base (fun k => k < W0.heap.size) v' (L ++ [x]) (fun i => if i = L.length then cs else C i) := by
  have hrb : ∀ k, v.ownBlock = some k → base ≤ k ∧ k < w.heap.size := fun k hk => h.row.row.lt k hk
  have hnm : ∀ k, v.ownBlock = some k → X' k ∧ ¬ M' k := fun k hk => ⟨hg1.up k (h.blk k hk).1, fun hm => by
    rcases hg1.ms k hm with hh | hh
    · exact (h.blk k hk).2 hh
    · have := (hrb k hk).2; omega⟩
  have hfr1 : Fr (fun k => W0.heap.size ≤ k) W0 w5 := h.fr.trans (hg1.fr.weak (fun k hk => h.ml k hk)) (fun k hk => .inl hk)
  have hml : ∀ k, M' k → W0.heap.size ≤ k := fun k hk => by
    rcases hg1.ms k hk with hh | hh
    · exact h.ml k hh
    · have := h.fr.size; omega
  have hs5 : SentR w6 base (fun k => k < W0.heap.size) v L C := (h.row.fr hg1.fr (fun k hk => (h.blk k hk).2) (fun k hk hm => by have := h.ml k hm; omega)).fr ha (fun _ _ h => h) (fun _ _ h => h)
  have hx6 : x.isL w6 (fun k => k < W0.heap.size) cs := isL_frame (Nat.le_trans hg1.fr.size ha.size) (fun b hb hlt => ⟨hb, (ha.block b (Nat.lt_of_lt_of_le hlt hg1.fr.size) (fun h => h)).trans (hg1.fr.block b hlt (fun hm => by have := h.ml b hm; omega))⟩) hx
  have hn6 := hn1.new ha (fun _ h => h)
  have hf7 : Fr (fun k => v.ownBlock = some k) w6 w7 := Fr.of_grown hg (fun k hk => .inl hk)
  refine ⟨?_, hml, ⟨XW X' w6 w7, hn6.fr hf7 (fun k hk => ⟨(hnm k hk).1, (hrb k hk).1⟩) (fun k hk => .inl hk) (fun k hk => hk) (fun k hk e => (hnm k e).2 hk), fun k hk => ?_⟩, hs5.snoc hx6 hg (fun k hk hs => by have := (hrb k hk).1; omega) hr⟩
  · exact (hfr1.trans ha (fun _ h => h.elim)).trans (hf7.weak (S2 := fun k => W0.heap.size ≤ k) (fun k hk => by have := (hrb k hk).1; omega)) (fun k hk => .inl hk)
  · rcases hat with e | ⟨q, e, hq⟩
    · rw [e] at hk
      exact ⟨.inl (hnm k hk).1, (hnm k hk).2⟩
    · rw [e] at hk
      injection hk with hk
      subst hk
      refine ⟨.inr ⟨hq, (hr.lt q (by rw [e])).2⟩, fun hm => ?_⟩
      have := hn6.xlt q (hn6.2.2.1 q hm).1
      omega
theorem OrdAtW.after {w7 w8 : World} {X7 X8 M8 : Nat → Prop} {P8 : Int → Nat} {v' : Value} {L' : List LT} {C' : Nat → List Value} (h1 : Fr (fun k => W0.heap.size ≤ k) W0 w7) (h2 : ∀ k, M' k → W0.heap.size ≤ k) (h4 : ∀ k, v'.ownBlock = some k → X7 k ∧ ¬ M' k) (h5 : SentR w7 base (fun k => k < W0.heap.size) v' L' C') (hno : ∀ y, y ∈ L' → NoTake y) (hg8 : Gr X7 M' w7 X8 M8 w8) (hn8 : NodeAt w8 X8 M8 base T p P8 (ordS id fuel L')) : OrdAtW W0 base p T id fuel w8 P8 X8 M8 v' L' C' where
  fr := h1.trans (hg8.fr.weak (fun k hk => h2 k hk)) (fun k hk => .inl hk)
  ml k hk := by
    rcases hg8.ms k hk with hh | hh
    · exact h2 k hh
    · have := h1.size; omega
  nd := hn8
  no := hno
  row := h5.fr hg8.fr (fun k hk => (h4 k hk).2) (fun k hk hm => by have := h2 k hm; omega)
  blk k hk := ⟨hg8.up k (h4 k hk).1, fun hm => by
    rcases hg8.ms k hm with hh | hh
    · exact (h4 k hk).2 hh
    · have := (h5.row.lt k hk).2; omega⟩
end
end Go.Proofs.YtjjfglbcikaicaaGreat
namespace Go.Proofs.YtjjfglbcikaicaaGreat
open Go.RowKit
set_option linter.unusedVariables false
set_option linter.unusedSimpArgs false
/-- the value of the law -/
def mineV (t : VT) : VT := .node 5 0 ⟨#[120]⟩ 2 (fun i => if i = 0 then t else vLeaf 2 1)
def mineL (t : VT) : LT := ⟨1, 0, 1001, 0, ⟨#[]⟩, mineV t⟩
theorem mineL_wf {t : VT} (hw : t.wf) (hm : t.many ≤ 500) : LtWf (mineL t) := by
  refine ⟨wf0, show Wf 1001 from Wf.of (by decide) (by decide), wf0, ⟨⟨by omega, by omega⟩, fun i hi => ?_⟩, ?_⟩
  · dsimp only
    split
    · exact hw
    · exact ⟨⟨by omega, by omega⟩, fun i hi => by omega⟩
  · show 1 + sumTo (fun i => (if i = 0 then t else vLeaf 2 1).many) 2 ≤ 1000
    simp [sumTo, vLeaf, VT.many]
    omega
theorem mineL_no (t : VT) : NoTake (mineL t) := by
  unfold NoTake
  rw [says_val (show ¬ (mineL t).kind = 2 from (fun e => by cases e))]
  show (5 : Int) ≠ 2
  decide
/-- the one letter of a row that was copied -/
theorem mine_cells {w : World} {base c : Nat} {A : Option Addr} {C : Nat → List Value} {t : VT} (h : LRowT w base (.slice A 1 c) 1 C (nthL [mineL t])) :
    ∃ g b off c2, A = some ⟨g, 0, none⟩ ∧ w.cell? ⟨g, 8, none⟩ = some (.slice (some ⟨b, off, none⟩) 2 c2) ∧ w.cell? ⟨b, off + 4 + 1, none⟩ = some (.int .i64 1) ∧ base ≤ g ∧ g < w.heap.size ∧ base ≤ b ∧ b < w.heap.size ∧ b ≠ g ∧ ∀ o, w.frozen? ⟨b, o, none⟩ = false := by
  obtain ⟨g, cap, hv, hg1, hg2, _⟩ := own_form h.1.row (by omega)
  injection hv with e1 _ e3
  subst e1 e3
  obtain ⟨k2, m2, s2, A2, n2, c2, hC, hv2⟩ := h.1.each 0 (by omega)
  have hcell := own_cellC h.1.row h.1.len (k := 0) (j := 8) (by omega) (by omega)
  rw [hC] at hcell
  have hnf := h.2 0 (by omega) (.slice A2 n2 c2) (by rw [hC]; rfl)
  obtain ⟨A3, c3, e, _, _, _, hV⟩ := hv2
  have e' : k2 = 5 ∧ m2 = 0 ∧ s2 = ⟨#[120]⟩ ∧ A2 = A3 ∧ n2 = 2 ∧ c2 = c3 := by
    injection e with q1 q2
    injection q2 with q2 q3
    injection q3 with q3 q4
    injection q4 with q4 _
    injection q1 with _ q1
    injection q2 with _ q2
    injection q3 with q3
    injection q4 with r1 r2 r3
    exact ⟨q1, q2, q3, r1, r2, r3⟩
  obtain ⟨_, _, _, rfl, rfl, rfl⟩ := e'
  obtain ⟨b, off, rfl, hb, hS, Cv, hCv⟩ := hV (by omega)
  obtain ⟨h1, h1c⟩ := hCv 1 (by omega)
  obtain ⟨A4, c4, hC1, _⟩ := h1
  obtain ⟨hS2, hb2, hfz⟩ := hnf b off 2 c2 rfl
  refine ⟨g, b, off, c2, rfl, ?_, ?_, hg1, hg2, hS2.1, hb2, fun e => hS2.2 (by rw [e]; rfl), hfz⟩
  · simpa using hcell
  · have := h1c 1 (.int .i64 1) (by rw [hC1]; rfl)
    simpa [Nat.add_assoc] using this
end Go.Proofs.YtjjfglbcikaicaaGreat
namespace Go.Proofs.YtjjfglbcikaicaaGreat
open Go.RowKit Go.ChangeShapes Go.WideShapes
set_option linter.unusedVariables false
section
variable {H : Type} {enc : TypeId × Value → H} {W : World} {held : Bool}
theorem field_eqL {P : Program} {n t o o' z z' : Nat} {cs : List Value} {r : Option (DataW H × List MemPlace)} (h : DataW.trod enc P W 0 (fun _ => true) held n t ((cs.drop o).take z) = r) (ho : o = o') (hz : z = z') : DataW.trod enc P W 0 (fun _ => true) held n t ((cs.drop o').take z') = r := by
  subst ho hz; exact h
set_option maxRecDepth 100000 in
theorem open_letterW {fuel : Nat} {cs : List Value} {x : DataW H × List MemPlace} (h : DataW.trod enc Tryz.prog W 0 (fun _ => true) held fuel 43 cs = some x) :
    ∃ l : LT, l.isL W (fun _ => True) cs ∧ l.val.many ≤ Rows.uptoBulk x.1 ∧ Wf l.frm ∧ Wf l.to ∧ Wf l.num ∧ l.val.wf := by
  obtain ⟨xs, n, hfu, hx, hlen, hxl, hf⟩ := DataW.trod_struct Tryz.underlying43 h
  have hl9 : cs.length = 9 := hlen.trans (by kernel_rfl)
  have hx6 : xs.length = 6 := hxl
  match cs, hl9, xs, hx6 with
  | [c0, c1, c2, c3, c4, c5, c6, c7, c8], _, [x0, x1, x2, x3, x4, x5], _ =>
    have h0 := field_eqL (hf 0 _ rfl) (o' := 0) (z' := 1) rfl (by kernel_rfl)
    have h1 := field_eqL (hf 1 _ rfl) (o' := 1) (z' := 1) rfl (by kernel_rfl)
    have h2 := field_eqL (hf 2 _ rfl) (o' := 2) (z' := 1) rfl (by kernel_rfl)
    have h3 := field_eqL (hf 3 _ rfl) (o' := 3) (z' := 1) rfl (by kernel_rfl)
    have h4 := field_eqL (hf 4 _ rfl) (o' := 4) (z' := 1) rfl (by kernel_rfl)
    have h5 := field_eqL (hf 5 _ rfl) (o' := 5) (z' := 4) rfl (by kernel_rfl)
    obtain ⟨z0, e0, _, g0⟩ := DataW.trod_int Tryz.underlying3 h0
    obtain ⟨z1, e1, _, g1⟩ := DataW.trod_int Tryz.underlying3 h1
    obtain ⟨z2, e2, _, g2⟩ := DataW.trod_int Tryz.underlying3 h2
    obtain ⟨z3, e3, _, g3⟩ := DataW.trod_int Tryz.underlying3 h3
    obtain ⟨s4, e4, _, _⟩ := DataW.trod_string Tryz.underlying9 h4
    obtain ⟨v, hv, hm, hwf⟩ := open_valW n _ _ h5
    have hv' : v.isV W (fun _ => True) [c5, c6, c7, c8] := hv
    obtain ⟨k2, m2, s2, A2, n2, c2', hc⟩ := isV_cells hv'
    simp at e0 e1 e2 e3 e4 hc
    obtain ⟨rfl, rfl, rfl, rfl⟩ := hc
    subst e0 e1 e2 e3 e4
    refine ⟨⟨z0, z1, z2, z3, s4, v⟩, ⟨k2, m2, s2, A2, n2, c2', rfl, hv'⟩, ?_, g1, g2, g3, hwf⟩
    rw [hx]
    simp only [List.map, Rows.uptoBulk, Rows.uptoBulkAll]
    omega
set_option maxRecDepth 100000 in
theorem open_lettersW {fuel : Nat} {cs : List Value} {x : DataW H × List MemPlace} (h : DataW.trod enc Tryz.prog W 0 (fun _ => true) held fuel 45 cs = some x) :
    ∃ A n c arg, cs = [.slice A n c] ∧ n ≤ c ∧ c ≤ 9223372036854775807 ∧ (A = none → n = 0) ∧ RdL W (fun _ => True) A n arg ∧ (∀ i, i < n → (arg i).val.many ≤ Rows.uptoBulk x.1 ∧ Wf (arg i).frm ∧ Wf (arg i).to ∧ Wf (arg i).num ∧ (arg i).val.wf) := by
  obtain ⟨A, n, c, C, E, e3, hnc, hcm, hA, hR, hlenC, hel, hbulk⟩ := open_rows_bulk (sz := 9) Tryz.underlying45 (by kernel_rfl) (by omega) h
  have hch : ∀ i, ∃ l : LT, i < n → l.isL W (fun _ => True) (C i) ∧ l.val.many ≤ Rows.uptoBulk (E i) ∧ Wf l.frm ∧ Wf l.to ∧ Wf l.num ∧ l.val.wf := fun i => by
    by_cases hi : i < n
    · obtain ⟨m, pl, hm, ht⟩ := hel i hi
      obtain ⟨l, h5⟩ := open_letterW ht
      exact ⟨l, fun _ => h5⟩
    · exact ⟨⟨0, 0, 0, 0, ⟨#[]⟩, .none⟩, fun h => absurd h hi⟩
  obtain ⟨F, hF⟩ := Classical.axiomOfChoice hch
  refine ⟨A, n, c, F, e3, hnc, hcm, hA, fun h0 => ?_, fun i hi => ?_⟩
  · obtain ⟨b, off, hAb, hb, hcell⟩ := hR h0
    exact ⟨b, off, hAb, hb, trivial, C, fun i hi => ⟨(hF i hi).1, hcell i hi⟩⟩
  · obtain ⟨_, h1, h2⟩ := hF i hi
    have h3 : Rows.uptoBulk (E i) ≤ sumTo (fun i => Rows.uptoBulk (E i)) n := le_sumTo (g := fun i => Rows.uptoBulk (E i)) hi
    exact ⟨by omega, h2⟩
end
end Go.Proofs.YtjjfglbcikaicaaGreat
namespace Go.Proofs.YtjjfglbcikaicaaGreat
open Go.RowKit Go.ChangeShapes Go.WideShapes
set_option linter.unusedVariables false
set_option linter.unusedSimpArgs false
/-- the node of the law when its actor waits and one letter lies in its box -/
def mineN (t : VT) : NdS := { ordN 1 5 [] with acts := [{ ordA 1001 [] 0 with box := [mineL t] }] }
theorem mine_put (t : VT) : putN (ordN 1 5 []) (mineL t) = (mineN t, 0) := put_ord rfl rfl rfl (by show 0 < 60; omega)
theorem mine_find (t : VT) : (mineN t).find 1001 = some { ordA 1001 [] 0 with box := [mineL t] } := List.find?_cons_of_pos (by simp [ordA])
set_option maxRecDepth 100000 in
theorem mine_isV {w : World} {S : Nat → Prop} {q : Nat} {t : VT} {cs : List Value} (hq : q < w.heap.size) (hS : S q) (h : t.isV w S cs) (hc : ∀ j u, (cs ++ [.int .i64 2, .int .i64 1, .string ⟨#[]⟩, .slice none 0 0])[j]? = some u → w.cell? ⟨q, j, none⟩ = some u) :
    (mineV t).isV w S [.int .i64 5, .int .i64 0, .string ⟨#[120]⟩, .slice (some ⟨q, 0, none⟩) 2 2] := by
  have h4 := isV_len h
  refine ⟨some ⟨q, 0, none⟩, 2, rfl, Nat.le_refl _, by omega, fun h => by simp at h, fun _ => ⟨q, 0, rfl, hq, hS, fun i => if i = 0 then cs else [.int .i64 2, .int .i64 1, .string ⟨#[]⟩, .slice none 0 0], fun i hi => ?_⟩⟩
  match i, hi with
  | 0, _ =>
    refine ⟨h, fun j u hu => ?_⟩
    have hu' : cs[j]? = some u := hu
    have hj : j < cs.length := by
      rw [List.getElem?_eq_some_iff] at hu'
      exact hu'.1
    have := hc j u (by rw [List.getElem?_append_left hj]; exact hu')
    simpa using this
  | 1, _ =>
    refine ⟨leaf_V w S 2 1, fun j u hu => ?_⟩
    have hu' : [Value.int .i64 2, .int .i64 1, .string ⟨#[]⟩, .slice none 0 0][j]? = some u := hu
    have := hc (4 + j) u (by rw [List.getElem?_append_right (by omega), h4, Nat.add_sub_cancel_left]; exact hu')
    simpa [Nat.add_assoc] using this
set_option maxRecDepth 100000 in
theorem open_valN {H : Type} {enc : TypeId × Value → H} {W : World} {base : Nat} {v : Value} {d : DataW H} {p : List MemPlace} (k0 : Value.okWide Tryz.prog W .any base 41 v) (h0 : DataW.Trod enc Tryz.prog W 0 (fun _ => true) true 41 v d p) :
    ∃ (t : VT) (k m : Int) (s : ByteArray) (A : Option Addr) (n c : Nat), v = .agg #[.int .i64 k, .int .i64 m, .string s, .slice A n c] ∧ t.isV W (fun _ => True) [.int .i64 k, .int .i64 m, .string s, .slice A n c] ∧ t.many ≤ Rows.uptoBulk d ∧ t.wf := by
  obtain ⟨⟨cs⟩, rfl, _⟩ := okWide_struct Tryz.underlying41 k0
  obtain ⟨fuel, hf⟩ := h0
  have hf : DataW.trod enc Tryz.prog W 0 (fun _ => true) true fuel 41 cs = some (d, p) := hf
  obtain ⟨t, h1, h2, h3⟩ := open_valW _ _ _ hf
  obtain ⟨k, m, s, A, n, c, rfl⟩ := isV_cells h1
  exact ⟨t, k, m, s, A, n, c, rfl, h1, h2, h3⟩
set_option maxRecDepth 100000 in
set_option maxHeartbeats 16000000 in
theorem nodeOwn_walk {H : Type} {enc : TypeId × Value → H} (W : World) (base : Nat) (v0 : Value) {d0 : DataW H} {p0 : List MemPlace}
    (k0 : Value.okWide Tryz.prog W .any base 41 v0) (h0 : DataW.Trod enc Tryz.prog W 0 (fun _ => true) true 41 v0 d0 p0) (hk : Rows.uptoSmall H [d0] = true) :
    Calls Tryz.prog 10 #[v0] W fun e W' => e = .returned (.bool true) ∧ Below W.heap.size W W' := by
  have b0 : Rows.uptoBulk d0 ≤ 1048576 := by
    have h := of_decide_eq_true hk
    simp only [Rows.uptoBulkAll] at h
    omega
  obtain ⟨t, k, m, s, A, n, c, rfl, hV, hmn, hwf⟩ := open_valN k0 h0
  have hm4 : t.many ≤ 4194304 := by omega
  obtain ⟨W1, hW1⟩ : ∃ W1, W1 = W.alloc (.cells #[.int .i64 k, .int .i64 m, .string s, .slice A n c] 41) := ⟨_, rfl⟩
  have hf1 : Fr (fun _ => False) W W1 := by rw [hW1]; exact (Fr.refl _ _).alloc _
  have HZ1 := Lib.hid (show CellsN W1 W.heap.size [.int .i64 k, .int .i64 m, .string s, .slice A n c] by rw [hW1]; exact cellsN_new W _ _)
  have HV := Lib.hid (fun (W9 : World) (hf : Fr (fun k => W.heap.size + 1 ≤ k) W W9) => show t.isV W9 (fun _ => True) [.int .i64 k, .int .i64 m, .string s, .slice A n c] from isV_frame hf.size (fun b _ hlt => ⟨trivial, hf.block b hlt (fun h => by have h1 : W.heap.size + 1 ≤ b := h; omega)⟩) hV)
  have HF1 := Lib.hid hf1
  have HW1 := Lib.hid hW1
  clear hk b0 k0 h0 hV hW1 hf1 hmn
  go_enter Tryz.func10, Tryz.ntmps10
  go_wp2_with fail
  rw [← HW1.out]
  refine (nodes_any W1).mono ?_
  rintro e w1 ⟨rfl, hb1⟩
  have HF2 := Lib.hid (HF1.out.trans' (Fr.of_below hb1))
  have HZ2 := Lib.hid (HZ1.out.fr (D := fun _ => False) (Fr.of_below hb1) (fun h => h))
  have z0 := HZ2.out.1 0 _ rfl
  have z1 := HZ2.out.1 1 _ rfl
  have z2 := HZ2.out.1 2 _ rfl
  have z3 := HZ2.out.1 3 _ rfl
  have HFL := Lib.hid (flat_any t [.int .i64 k, .int .i64 m, .string s, .slice A n c] (fun _ => True) w1 (HV.out _ (HF2.out.weak (fun _ h => h.elim))) hm4)
  clear hb1
  go_wp2_with fail
  refine HFL.out.mono ?_
  rintro e w2 ⟨rfl, hb2⟩
  have HF3 := Lib.hid (HF2.out.trans' (Fr.of_below hb2))
  have HZ3 := Lib.hid (HZ2.out.fr (D := fun _ => False) (Fr.of_below hb2) (fun h => h))
  clear hb2 z0 z1 z2 z3 HFL
  rcases hfb : flatB t with _ | _
  · clear hfb
    go_wp2_with fail
    refine (nodes_any w2).mono ?_
    rintro e w3 ⟨rfl, hb3⟩
    have HB3 := Lib.hid hb3
    clear hb3
    go_wp2_with fail
    refine bodyPost_ret (v := .bool true) (by simp [results, Tryz.results10, go_sem]) rfl ⟨rfl, ?_⟩
    exact (HF3.out.trans' (Fr.of_below HB3.out)).below (fun _ h => h.elim) (Nat.le_refl _)
  · have hflat := of_decide_eq_true hfb
    have HWF := Lib.hid (mineL_wf hwf (by omega))
    clear hfb hflat
    obtain ⟨W4, hW4⟩ : ∃ W4, W4 = ((w2.alloc (.cells #[.int .i64 (-7)] 3)).alloc (.cells #[.int .i64 6, .int .i64 0, .int .i64 (-1), .slice (some ⟨w2.heap.size, 0, none⟩) 1 1] 28)).alloc (.cells #[.slice (some ⟨w2.heap.size + 1, 0, none⟩) 1 1] 29) := ⟨_, rfl⟩
    have hb4 : Fr (fun _ => False) w2 W4 := by rw [hW4]; exact (((Fr.refl _ _).alloc _).alloc _).alloc _
    have hz4 : W4.heap.size = w2.heap.size + 3 := by rw [hW4]; simp
    have hscr : ScrsAt W4 (w2.heap.size + 3) (some ⟨w2.heap.size + 2, 0, none⟩) 1 [scrO] := by
      refine scrs_one (b := w2.heap.size + 2) (A := some ⟨w2.heap.size + 1, 0, none⟩) (l := scrO) (vo := fun _ => .slice (some ⟨w2.heap.size, 0, none⟩) 1 1) (n := 1) (c := 1) rfl (by omega) (by rw [hW4]; simp [go_sem]) (scrAt_new (n := 1) rfl (by omega) (by omega) (fun j u hu => ?_) (fun k hk => ?_))
      · rw [hW4]
        have h := cell_newL (w2.alloc (.cells #[.int .i64 (-7)] 3)) (flatC (stC scrO (fun _ => .slice (some ⟨w2.heap.size, 0, none⟩) 1 1)) 1) 28 (w2.heap.size + 1) (by simp) j u hu
        rw [Addr.add_lit, Nat.zero_add] at h
        exact (World.cell?_alloc_lt _ _ ⟨w2.heap.size + 1, j, none⟩ (by simp)).trans h
      · have hk' : k < 1 := hk
        obtain rfl : k = 0 := by omega
        refine ⟨some ⟨w2.heap.size, 0, none⟩, 1, rfl, Nat.le_refl _, by omega, fun _ => ⟨w2.heap.size, 0, rfl, by omega, fun j hj => ?_⟩⟩
        have hj' : j < 1 := hj
        obtain rfl : j = 0 := by omega
        rw [hW4]
        simp [go_sem, lst, nthS, scrO]
    have HNEW := Lib.hid (new_any (fun _ => False) (w2.heap.size + 3) 1 _ 1 [scrO] 5 W4 (fun _ h => h.elim) (by omega) hscr scrO_wf ⟨by omega, by omega⟩ ⟨by omega, by omega⟩)
    have HW4 := Lib.hid hW4
    have HF4 := Lib.hid (HF3.out.trans' hb4)
    have HZ4 := Lib.hid (HZ3.out.fr (D := fun _ => False) hb4 (fun h => h))
    clear hW4 hb4 hscr
    go_wp2_with fail
    rw [← HW4.out]
    refine HNEW.out.mono ?_
    rintro e w3 ⟨p, P, rfl, hp, hf3, hn3⟩
    have HSP := Lib.hid (spawn_any 48 (hn3.up (T' := 1000) (by omega)) (by show 0 + 201 * 0 + 201 ≤ 1000; omega) (by omega))
    have HF45 := Lib.hid hf3
    have HF5 := Lib.hid (HF4.out.trans' (hf3.weak (S2 := fun _ => False) (fun _ h => h)))
    have HLO := Lib.hid (show ∀ k, (fun k => W4.heap.size ≤ k ∧ k < w3.heap.size) k → w2.heap.size + 3 ≤ k from fun k hk => by have := hk.1; omega)
    have hS2 := spawn_ord (id := 1) (fuel := 5)
    have e1 : (spawnN (newN 1 [scrO] 5) ⟨#[48]⟩).2.1 = 1001 := by
      have := congrArg (fun q => q.2.1) hS2
      exact this
    have e2 : (spawnN (newN 1 [scrO] 5) ⟨#[48]⟩).2.2 = 0 := by
      have := congrArg (fun q => q.2.2) hS2
      exact this
    have e3 : (spawnN (newN 1 [scrO] 5) ⟨#[48]⟩).1 = ord0 1 5 := by
      have := congrArg (fun q => q.1) hS2
      exact this
    rw [e3, e1, e2] at HSP
    clear hn3 hf3 HNEW e1 e2 e3 hS2 HW4
    go_wp2_with fail
    refine HSP.out.mono ?_
    rintro e w4 ⟨P4, -, rfl, X4, M4, hg4, hn4⟩
    have HTN := Lib.hid (turn_any hn4 (by omega))
    have HG4 := Lib.hid hg4
    clear hg4 hn4 HSP
    go_wp2_with fail
    refine HTN.out.mono ?_
    rintro e w5 ⟨rfl, P5, X5, M5, hg5, hn5⟩
    have eT : (turnN (ord0 1 5)).1 = ordN 1 5 [] := turn_ord0 (id := 1) (fuel := 5) (l := []) (by omega) (fun x hx => by cases hx)
    rw [eT] at hn5
    have HN5 := Lib.hid hn5
    have HF6 := Lib.hid (show Fr (fun k => W.heap.size + 1 ≤ k) W w5 from (HF5.out.weak (S2 := fun k => W.heap.size + 1 ≤ k) (fun _ h => h.elim)).trans' (((HG4.out.trans hg5).fr).weak (fun k hk => by have := HLO.out k hk; have := HF3.out.size; have := HZ3.out.2.2; omega)))
    have HG5 := Lib.hid (HG4.out.trans hg5)
    have HM5 := Lib.hid (show ∀ k, M5 k → w2.heap.size + 3 ≤ k from fun k hk => (hn5.2.2.1 k hk).2)
    have HZ5 := Lib.hid (HZ4.out.fr (D := fun k => w2.heap.size + 3 ≤ k) (show Fr _ W4 w5 from (HF45.out.weak (S2 := fun k => w2.heap.size + 3 ≤ k) (fun _ h => h.elim)).trans' (((HG4.out.trans hg5).fr).weak (fun k hk => HLO.out k hk))) (by have := HZ3.out.2.2; omega))
    clear hg5 hn5 HTN eT HG4
    have z0 := HZ5.out.1 0 _ rfl
    have z1 := HZ5.out.1 1 _ rfl
    have z2 := HZ5.out.1 2 _ rfl
    have z3 := HZ5.out.1 3 _ rfl
    go_wp2_with fail
    refine (own_any_v t [.int .i64 k, .int .i64 m, .string s, .slice A n c] (fun _ => True) w5 (HV.out _ HF6.out) hm4).mono ?_
    rintro e w6 ⟨cs6, rfl, hV6, hb6⟩
    obtain ⟨k6, m6, s6, A6, n6, c6, rfl⟩ := isV_cells hV6
    obtain ⟨W7, hW7⟩ : ∃ W7, W7 = (w6.alloc (.cells #[.int .i64 k6, .int .i64 m6, .string s6, .slice A6 n6 c6, .int .i64 2, .int .i64 1, .string ⟨#[]⟩, .slice none 0 0] 41)).alloc (.cells #[.int .i64 5, .int .i64 0, .string ⟨#[120]⟩, .slice (some ⟨w6.heap.size, 0, none⟩) 2 2] 41) := ⟨_, rfl⟩
    have hf7 : Fr (fun _ => False) w6 W7 := by rw [hW7]; exact ((Fr.refl _ _).alloc _).alloc _
    have HQ7 := Lib.hid (show CellsN W7 w6.heap.size [.int .i64 k6, .int .i64 m6, .string s6, .slice A6 n6 c6, .int .i64 2, .int .i64 1, .string ⟨#[]⟩, .slice none 0 0] by rw [hW7]; exact (cellsN_new w6 _ _).fr (D := fun _ => False) ((Fr.refl _ _).alloc _) (fun h => h))
    have HY7 := Lib.hid (show CellsN W7 (w6.heap.size + 1) [.int .i64 5, .int .i64 0, .string ⟨#[120]⟩, .slice (some ⟨w6.heap.size, 0, none⟩) 2 2] by rw [hW7]; simpa using cellsN_new (w6.alloc (.cells #[.int .i64 k6, .int .i64 m6, .string s6, .slice A6 n6 c6, .int .i64 2, .int .i64 1, .string ⟨#[]⟩, .slice none 0 0] 41)) [.int .i64 5, .int .i64 0, .string ⟨#[120]⟩, .slice (some ⟨w6.heap.size, 0, none⟩) 2 2] 41)
    have hf57 : Fr (fun _ => False) w5 W7 := (Fr.of_below hb6).trans' hf7
    have HMV := Lib.hid (mine_isV (S := fun _ => True) HQ7.out.2.2 trivial (isV_frame hf7.size (fun b _ hlt => ⟨trivial, hf7.block b hlt (fun h => h)⟩) hV6) (fun j u hu => HQ7.out.1 j u hu))
    have hN7 := HN5.out.xw hf57
    have HPUT := Lib.hid (put_any (mineL t) [.int .i64 1, .int .i64 0, .int .i64 1001, .int .i64 0, .string ⟨#[]⟩, .int .i64 5, .int .i64 0, .string ⟨#[120]⟩, .slice (some ⟨w6.heap.size, 0, none⟩) 2 2] (fun _ => True) hN7 ⟨_, _, _, _, _, _, rfl, HMV.out⟩ HWF.out (by omega))
    rw [mine_put] at HPUT
    have HW7 := Lib.hid hW7
    have HQX := Lib.hid (show XW X5 w5 W7 w6.heap.size ∧ ¬ M5 w6.heap.size ∧ ¬ M5 (w6.heap.size + 1) from ⟨.inr ⟨hb6.size, HQ7.out.2.2⟩, fun h => by have := HN5.out.xlt _ (HN5.out.2.2.1 _ h).1; have := hb6.size; omega, fun h => by have := HN5.out.xlt _ (HN5.out.2.2.1 _ h).1; have := hb6.size; omega⟩)
    have HF7 := Lib.hid (HF6.out.trans' (hf57.weak (S2 := fun k => W.heap.size + 1 ≤ k) (fun _ h => h.elim)))
    have y0 := HY7.out.1 0 _ rfl
    have y1 := HY7.out.1 1 _ rfl
    have y2 := HY7.out.1 2 _ rfl
    have y3 := HY7.out.1 3 _ rfl
    have HB5 := Lib.hid (show w2.heap.size + 3 ≤ w5.heap.size ∧ w5.heap.size ≤ w6.heap.size from ⟨by have := HN5.out.pM.2.2; have := HN5.out.p_lt; omega, hb6.size⟩)
    clear hV6 hf7 hf57 hN7 hW7 hb6 z0 z1 z2 z3
    go_wp2_with fail
    rw [← HW7.out]
    refine HPUT.out.mono ?_
    rintro e w7 ⟨rfl, X8, M8, hg8, hn8⟩
    have HG8 := Lib.hid hg8
    have HN8 := Lib.hid hn8
    clear hg8 hn8 HPUT y0 y1 y2 y3 HW7
    have HY8 := Lib.hid (HY7.out.fr (D := M5) HG8.out.fr HQX.out.2.2)
    have HQ8 := Lib.hid (HQ7.out.fr (D := M5) HG8.out.fr HQX.out.2.1)
    have y3 := HY8.out.1 3 _ rfl
    have q5 := HQ8.out.1 5 _ rfl
    have qf := HQ8.out.2.1
    go_wp2_with fail
    obtain ⟨W9, hW9⟩ : ∃ W9, W9 = w7.setCell ⟨w6.heap.size, 5, none⟩ (.int .i64 2) := ⟨_, rfl⟩
    have hf9 : Fr (fun k => k = w6.heap.size) w7 W9 := by rw [hW9]; exact Fr.setAt (Fr.refl _ _) _
    have hq8 : ¬ M8 w6.heap.size := fun h => by
      rcases HG8.out.ms _ h with h | h
      · exact HQX.out.2.1 h
      · have := HQ7.out.2.2; omega
    have HN9 := Lib.hid (HN8.out.fr (X' := X8) hf9 (fun k hk => by rw [hk]; exact ⟨HG8.out.up _ HQX.out.1, by have := HB5.out; omega⟩) (fun _ h => h) (fun _ h => .inl h) (fun k hk e => hq8 (by rw [← e]; exact hk)))
    have hM8 : ∀ k, M8 k → W.heap.size + 1 ≤ k := fun k hk => by
      have := (HN8.out.2.2.1 k hk).2
      have := HF3.out.size
      have := HZ3.out.2.2
      omega
    have HF9 := Lib.hid ((HF7.out.trans' (HG8.out.fr.weak (fun k hk => by
      have := HM5.out k hk
      have := HZ3.out.2.2
      omega))).trans' (hf9.weak (S2 := fun k => W.heap.size + 1 ≤ k) (fun k hk => by
      have := HZ3.out.2.2
      have := HB5.out
      omega)))
    have HBX := Lib.hid (boxT_any HN9.out (mine_find t))
    have HM8 := Lib.hid hM8
    have HHQ8 := Lib.hid hq8
    have HW9 := Lib.hid hW9
    clear hf9 hq8 hM8 hW9 y3 q5 qf
    rw [← HW9.out]
    refine HBX.out.mono ?_
    rintro e w10 ⟨v10, C10, rfl, hL10, hb10⟩
    have hL10 : LRowT w10 W9.heap.size v10 1 C10 (nthL [mineL t]) := hL10
    obtain ⟨A10, c10, e10, _⟩ := own_any hL10.1.row
    subst e10
    have HL10 := Lib.hid hL10
    have HB10 := Lib.hid hb10
    have HPC := Lib.hid (show Calls Tryz.prog 36 #[.pointer (some ⟨p, 0, none⟩), .int .i64 1001] w10 (fun e w' => ∃ (r0 : Int) (s1 : ByteArray) (A2 : Option Addr) (c2 : Nat) (A4 : Option Addr) (c4 : Nat) (C4 : Nat → List Value) (r5 : Int) (A6 : Option Addr) (n6 c6 : Nat) (A7 : Option Addr) (n7 c7 : Nat), e = .returned (.tuple #[.agg #[.int .i64 r0, .string s1, .slice A2 2 c2, .slice none 0 0, .slice A4 1 c4, .int .i64 r5, .slice A6 n6 c6, .slice A7 n7 c7], .int .i64 0]) ∧ LRowT w' w10.heap.size (.slice A4 1 c4) 1 C4 (nthL [mineL t]) ∧ Below w10.heap.size w10 w') from (parcelT_any (HN9.out.below hb10) (mine_find t) rfl).mono (by
      rintro e w' ⟨A2, c2, A4, c4, C4, A6, c6, A7, c7, rfl, -, -, -, hL, -, -, hb⟩
      exact ⟨_, _, _, _, _, _, C4, _, _, _, _, _, _, _, rfl, hL, hb⟩))
    clear hL10 hb10 HBX HW9
    go_wp2_with fail
    refine HPC.out.mono ?_
    rintro e w11 ⟨r0, s1, A2, c2, A4, c4, C4, r5, A6, n6, c6', A7, n7, c7, rfl, hL11, hb11⟩
    obtain ⟨g1, b1, o1, d1, rfl, u1, u2, g1l, g1h, b1l, b1h, hbg1, uf1⟩ := mine_cells HL10.out
    obtain ⟨g2, b2, o2, d2, rfl, x1, x2, g2l, g2h, b2l, b2h, hbg2, xf2⟩ := mine_cells hL11
    obtain ⟨W12, hW12⟩ : ∃ W12, W12 = (w11.alloc (.cells #[.int .i64 r0, .string s1, .slice A2 2 c2, .slice none 0 0, .slice (some ⟨g2, 0, none⟩) 1 c4, .int .i64 r5, .slice A6 n6 c6', .slice A7 n7 c7] 82)).alloc (.cells #[.int .i64 0, .int .i64 0] 31) := ⟨_, rfl⟩
    have hf12 : Fr (fun _ => False) w11 W12 := by rw [hW12]; exact ((Fr.refl _ _).alloc _).alloc _
    have hf11 : Fr (fun _ => False) w10 w11 := Fr.of_below hb11
    have p4 : W12.cell? ⟨w11.heap.size, 4, none⟩ = some (.slice (some ⟨g2, 0, none⟩) 1 c4) := by rw [hW12]; simp [go_sem]
    have HE0 : W12.cell? ⟨w11.heap.size + 1, 0, none⟩ = some (.int .i64 0) := by rw [hW12]; simp [go_sem]
    have HE1 : W12.cell? ⟨w11.heap.size + 1, 1, none⟩ = some (.int .i64 0) := by rw [hW12]; simp [go_sem]
    have HGD := Lib.hid (good_two 0 0 W12 2 (w11.heap.size + 1) HE0 HE1)
    have u1 := (hf11.trans' hf12).cell u1 (fun h => h)
    have u2 := (hf11.trans' hf12).cell u2 (fun h => h)
    have x1 := hf12.cell x1 (fun h => h)
    have x2 := hf12.cell x2 (fun h => h)
    have uf1 : ∀ o, W12.frozen? ⟨b1, o, none⟩ = false := fun o => ((hf11.trans' hf12).frozen b1h (fun h => h)).trans (uf1 o)
    have xf2 : ∀ o, W12.frozen? ⟨b2, o, none⟩ = false := fun o => (hf12.frozen b2h (fun h => h)).trans (xf2 o)
    have HF12 := Lib.hid ((Fr.of_below (S := fun _ => False) HB10.out).trans' (hf11.trans' hf12))
    have HLT := Lib.hid (And.intro b1l (And.intro b1h (And.intro b2l (And.intro b2h hf12.size))))
    have hbb : b1 ≠ b2 := by omega
    have hpb1 : w11.heap.size ≠ b1 := by have := hf11.size; omega
    have hpb2 : w11.heap.size ≠ b2 := by omega
    have hgb : g2 ≠ b1 := by omega
    have HW12 := Lib.hid hW12
    clear hL11 hb11 HPC HE0 HE1 hf11 hf12 g1l g1h b1l b1h g2l g2h b2l b2h hW12
    go_wp2_with fail
    rw [← HW12.out]
    refine HGD.out.mono ?_
    rintro e w13 ⟨rfl, rfl⟩
    clear HGD HW12
    go_wp2_with fail
    have hbb' : b2 ≠ b1 := fun e => hbb e.symm
    go_region
    all_goals
      go_wp2_with fail
      obtain ⟨W14, hW14⟩ : ∃ W14, W14 = ((W12.setCell ⟨b1, o1 + 4 + 1, none⟩ (.int .i64 3)).setCell ⟨b2, o2 + 4 + 1, none⟩ (.int .i64 4)).drew := ⟨_, rfl⟩
      have hf14 : Fr (fun k => k = b1 ∨ k = b2) W12 W14 := by
        rw [hW14]
        exact (((Fr.refl _ _).set (Or.inl (.inl rfl)) _).set (Or.inl (.inr rfl)) _).drew
      obtain ⟨l1, l2, l3, l4, l5⟩ := HLT.out
      have hb10 := HB10.out.size
      have hN12 := HN9.out.xw HF12.out
      have hlb := HB5.out
      have hn97 := HN9.out.p_lt
      have hz97 : w5.heap.size ≤ W9.heap.size := by
        have h1 : w6.heap.size < W9.heap.size := HN9.out.xlt _ (HG8.out.up _ HQX.out.1)
        omega
      have hN14 := hN12.fr (X' := XW X8 W9 W12) hf14 (fun k hk => by
        rcases hk with rfl | rfl
        · exact ⟨.inr ⟨l1, by omega⟩, by omega⟩
        · exact ⟨.inr ⟨by omega, by omega⟩, by omega⟩) (fun _ h => h) (fun _ h => .inl h) (fun k hk e => by
        have := HN9.out.xlt k (HN9.out.2.2.1 k hk).1
        rcases e with rfl | rfl <;> omega)
      have HBX4 := Lib.hid (boxT_any hN14 (mine_find t))
      have HFE := Lib.hid (show Fr (fun k => W.heap.size ≤ k) W W14 from ((HF9.out.weak (S2 := fun k => W.heap.size ≤ k) (fun k hk => by omega)).trans' (HF12.out.weak (S2 := fun k => W.heap.size ≤ k) (fun _ h => h.elim))).trans' (hf14.weak (S2 := fun k => W.heap.size ≤ k) (fun k hk => by
        have := HZ3.out.2.2
        have := HF3.out.size
        rcases hk with rfl | rfl <;> omega)))
      have HW14 := Lib.hid hW14
      clear hf14 hN12 hN14 hW14 p4 u1 u2 x1 x2 uf1 xf2 l1 l2 l3 l4 l5
      rw [← HW14.out]
      refine HBX4.out.mono ?_
      rintro e w15 ⟨v15, C15, rfl, hL15, hb15⟩
      have hL15 : LRowT w15 W14.heap.size v15 1 C15 (nthL [mineL t]) := hL15
      obtain ⟨A15, c15, e15, _⟩ := own_any hL15.1.row
      subst e15
      obtain ⟨g3, b3, o3, d3, rfl, y1, y2, -⟩ := mine_cells hL15
      have HB15 := Lib.hid hb15
      clear hL15 hb15 HBX4 HW14
      go_wp2_with fail
      refine bodyPost_ret (v := .bool true) (by simp [results, Tryz.results10, go_sem]) rfl ⟨rfl, ?_⟩
      exact (HFE.out.trans' ((Fr.of_below HB15.out).weak (S2 := fun k => W.heap.size ≤ k) (S := fun _ => False) (fun _ h => h.elim))).below (fun k hk => hk) (Nat.le_refl _)
end Go.Proofs.YtjjfglbcikaicaaGreat
