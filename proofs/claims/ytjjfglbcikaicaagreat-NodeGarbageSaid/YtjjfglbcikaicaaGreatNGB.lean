/- copies.Parcel: a parcel is copied whole. Node.Save, Node.row. Node.Parcel. The contract of slices.Concat over ints. What a turn leaves of those who have no turn; who goes on for sure is not passed over twice. References of a node are not above those that were given. What is known of each actor: Knows. Two nodes side by side: what one does leaves the other as it was. Two nodes beside each other: how they come, and what is compared of them. Is an actor among those that are known? Two nodes side by side, one without some that wait for ever: what is done to both leaves them so. A node that is begun, beside itself. Who is live: the closure by rounds. Who nobody awake comes to may go: the node without them. The map of who is live, and the rows that it is read from. The walk of the law NodeGarbage. -/
import Derived.Test.YtjjfglbcikaicaaGreatMJ
import Derived.Test.YtjjfglbcikaicaaGreatMF
import Derived.Test.YtjjfglbcikaicaaGreatME
import Derived.BigRegion
import Derived.Test.YtjjfglbcikaicaaGreatInts
import Derived.IntWalk
import Derived.Lib.AppendZeros
import Derived.Test.YtjjfglbcikaicaaGreatMI
import Derived.Deep.AppendLies
import Derived.Test.YtjjfglbcikaicaaGreatMS
import Derived.Test.YtjjfglbcikaicaaGreatMB
namespace Go.Proofs.YtjjfglbcikaicaaGreat
open Go.RowKit
set_option linter.unusedVariables false
set_option linter.unusedSimpArgs false
/-- a parcel as data -/
structure PclS where
  ref : Int
  nm : ByteArray
  st : Nat → VT
  box : List LT
  ticks : Int
  ws : List Int
  ls : List Int
/-- a parcel whose rows lie in blocks of S -/
def PclAt (w : World) (S : Nat → Prop) (p : PclS) (cs : List Value) : Prop :=
  ∃ A2 c2 A4 c4 v6 v7, cs = [.int .i64 p.ref, .string p.nm, .slice A2 2 c2, .slice none 0 0, .slice A4 p.box.length c4, .int .i64 p.ticks, v6, v7] ∧ 2 ≤ c2 ∧ c2 ≤ 9223372036854775807 ∧ p.box.length ≤ c4 ∧ c4 ≤ 9223372036854775807 ∧
    RdV w S A2 2 p.st ∧ RdL w S A4 p.box.length (nthL p.box) ∧ NumIn w S v6 p.ws ∧ NumIn w S v7 p.ls
theorem PclAt.fr {w w' : World} {S S' D : Nat → Prop} {p : PclS} {cs : List Value} (h : PclAt w S p cs) (hf : Fr D w w') (hS : ∀ k, S k → ¬ D k) (hS' : ∀ k, S k → S' k) : PclAt w' S' p cs := by
  obtain ⟨A2, c2, A4, c4, v6, v7, e, h1, h2, h3, h4, h5, h6, h7, h8⟩ := h
  exact ⟨A2, c2, A4, c4, v6, v7, e, h1, h2, h3, h4, h5.frame hf.size (fun b hb hlt => ⟨hS' b hb, hf.block b hlt (hS b hb)⟩), h6.frame hf.size (fun b hb hlt => ⟨hS' b hb, hf.block b hlt (hS b hb)⟩), h7.fr hf hS hS', h8.fr hf hS hS'⟩
/-- eight cells of block q -/
def CellsN (w : World) (q : Nat) (cs : List Value) : Prop := (∀ j u, cs[j]? = some u → w.cell? ⟨q, j, none⟩ = some u) ∧ (∀ o, w.frozen? ⟨q, o, none⟩ = false) ∧ q < w.heap.size
theorem CellsN.fr {w w' : World} {D : Nat → Prop} {q : Nat} {cs : List Value} (h : CellsN w q cs) (hf : Fr D w w') (hq : ¬ D q) : CellsN w' q cs :=
  ⟨fun j u hu => hf.cell (h.1 j u hu) hq, fun o => (hf.frozen h.2.2 hq).trans (h.2.1 o), Nat.lt_of_lt_of_le h.2.2 hf.size⟩
theorem cells8_of {w : World} {q : Nat} {c0 c1 c2 c3 c4 c5 c6 c7 : Value} (h0 : w.cell? ⟨q, 0, none⟩ = some c0) (h1 : w.cell? ⟨q, 1, none⟩ = some c1) (h2 : w.cell? ⟨q, 2, none⟩ = some c2) (h3 : w.cell? ⟨q, 3, none⟩ = some c3) (h4 : w.cell? ⟨q, 4, none⟩ = some c4) (h5 : w.cell? ⟨q, 5, none⟩ = some c5) (h6 : w.cell? ⟨q, 6, none⟩ = some c6) (h7 : w.cell? ⟨q, 7, none⟩ = some c7) (hf : ∀ o, w.frozen? ⟨q, o, none⟩ = false) : CellsN w q [c0, c1, c2, c3, c4, c5, c6, c7] := ⟨fun j u hu => by
  match j, hu with
  | 0, hu => injection hu with hu; subst hu; exact h0
  | 1, hu => injection hu with hu; subst hu; exact h1
  | 2, hu => injection hu with hu; subst hu; exact h2
  | 3, hu => injection hu with hu; subst hu; exact h3
  | 4, hu => injection hu with hu; subst hu; exact h4
  | 5, hu => injection hu with hu; subst hu; exact h5
  | 6, hu => injection hu with hu; subst hu; exact h6
  | 7, hu => injection hu with hu; subst hu; exact h7, hf, World.block_lt_of_cell? w _ h0⟩
theorem cellsN_new (w : World) (cs : List Value) (t : TypeId) : CellsN (w.alloc (.cells cs.toArray t)) w.heap.size cs := ⟨fun j u hu => by
  have h := cell_newL w cs t _ rfl j u hu
  rw [Addr.add_lit, Nat.zero_add] at h
  exact h, fun o => by simp [go_sem], by simp⟩
theorem numIn_rd {w : World} {B : Nat → Prop} {v : Value} {l : List Int} (h : NumIn w B v l) : ∃ A c, v = .slice A l.length c ∧ l.length ≤ c ∧ c ≤ 9223372036854775807 ∧ (A = none → l.length = 0) ∧ Rd w 1 (tmC (lst l)) A l.length := by
  obtain ⟨A, c, e, h1, h2, h3⟩ := h
  refine ⟨A, c, e, h1, h2, fun hA => ?_, fun h0 => ?_⟩
  · by_cases h0 : 0 < l.length
    · obtain ⟨b, off, e2, _⟩ := h3 h0
      rw [hA] at e2
      cases e2
    · omega
  obtain ⟨b, off, e2, hb, hc⟩ := h3 h0
  refine ⟨b, off, e2, World.block_lt_of_cell? w _ (hc 0 h0), fun k hk j u hu => ?_⟩
  have hj : j < 1 := (List.getElem?_eq_some_iff.1 hu).1
  obtain rfl : j = 0 := by omega
  have : u = .int .i64 (lst l k) := by simpa [tmC] using hu.symm
  subst this
  rw [Nat.mul_one, Nat.add_zero]
  exact hc k hk
theorem LRow.lower {w : World} {base base' n : Nat} {v : Value} {C : Nat → List Value} {arg : Nat → LT} (h : LRow w base v n C arg) (hb : base' ≤ base) : LRow w base' v n C arg :=
  ⟨own_mono h.row hb, h.len, fun i hi => isL_frame (Nat.le_refl _) (fun b hs _ => ⟨⟨by omega, hs.2⟩, rfl⟩) (h.each i hi)⟩
theorem LRow.fr2 {D : Nat → Prop} {w w' : World} {base n : Nat} {v : Value} {C : Nat → List Value} {arg : Nat → LT} (h : LRow w base v n C arg) (hf : Fr D w w') (hr : ∀ k, D k → k < base) : LRow w' base v n C arg := h.fr hf hr
theorem RdV.fr3 {D : Nat → Prop} {w w' : World} {B n : Nat} {A : Option Addr} {arg : Nat → VT} (h : RdV w (fun b => B ≤ b) A n arg) (hf : Fr D w w') (hD : ∀ k, D k → k < B) : RdV w' (fun b => B ≤ b) A n arg := h.frame hf.size (fun b hb hlt => ⟨hb, hf.block b hlt (fun hd => by have := hD b hd; have h9 : B ≤ b := hb; omega)⟩)
theorem RdV.lower {w : World} {B B' n : Nat} {A : Option Addr} {arg : Nat → VT} (h : RdV w (fun b => B ≤ b) A n arg) (hb : B' ≤ B) : RdV w (fun b => B' ≤ b) A n arg := h.frame (Nat.le_refl _) (fun b hs _ => ⟨by have h9 : B ≤ b := hs; show B' ≤ b; omega, rfl⟩)
theorem rd_new {w W W9 : World} {sz n : Nat} {g : Nat → List Value} {A : Option Addr} (h : Rd w sz g A n) (hb : Below w.heap.size w W) (hf : Fr (fun k => k = w.heap.size) W W9) : Rd W9 sz g A n := fun h0 => by
  obtain ⟨b, off, e, hlt, hc⟩ := h h0
  exact ⟨b, off, e, Nat.lt_of_lt_of_le hlt (Nat.le_trans hb.size hf.size), fun k hk j u hu => hf.cell ((hb.cell (p := ⟨b, _, none⟩) hlt).trans (hc k hk j u hu)) (by omega)⟩
def PclPost (p : PclS) (w : World) (v : Value → Value) (e : Ending) (w' : World) : Prop :=
  ∃ A2 c2 A4 c4 C A6 c6 A7 c7, e = .returned (v (.agg #[.int .i64 p.ref, .string p.nm, .slice A2 2 c2, .slice none 0 0, .slice A4 p.box.length c4, .int .i64 p.ticks, .slice A6 p.ws.length c6, .slice A7 p.ls.length c7])) ∧ 2 ≤ c2 ∧ c2 ≤ 9223372036854775807 ∧
    RdV w' (fun b => w.heap.size ≤ b) A2 2 p.st ∧ LRow w' w.heap.size (.slice A4 p.box.length c4) p.box.length C (nthL p.box) ∧ OwnI w' w.heap.size (.slice A6 p.ws.length c6) p.ws ∧ OwnI w' w.heap.size (.slice A7 p.ls.length c7) p.ls ∧ Below w.heap.size w w'
set_option maxRecDepth 100000 in
set_option maxHeartbeats 8000000 in
theorem pcopy_any (p : PclS) (cs : List Value) (S : Nat → Prop) (w : World) (H : PclAt w S p cs) (hb : p.box.length ≤ 60) (hm : ∀ i, i < p.box.length → (nthL p.box i).val.many ≤ 4194304) (hs : ∀ i, i < 2 → (p.st i).many ≤ 4194304) (hw : p.ws.length ≤ 1000000) (hl : p.ls.length ≤ 1000000) :
    Calls Tryz.prog 65 #[.agg cs.toArray] w (PclPost p w id) := by
  obtain ⟨A2, c2, A4, c4, v6, v7, rfl, h1, h2, h3, h4, h5, h6, h7, h8⟩ := H
  obtain ⟨A6, c6, rfl, i1, i2, hn6, R6⟩ := numIn_rd h7
  obtain ⟨A7, c7, rfl, i3, i4, hn7, R7⟩ := numIn_rd h8
  obtain ⟨W, hW⟩ : ∃ W, W = (w.alloc (.cells #[.int .i64 p.ref, .string p.nm, .slice A2 2 c2, .slice none 0 0, .slice A4 p.box.length c4, .int .i64 p.ticks, .slice A6 p.ws.length c6, .slice A7 p.ls.length c7] 82)).alloc (.cells #[.int .i64 0, .string ⟨#[]⟩, .slice none 0 0, .slice none 0 0, .slice none 0 0, .int .i64 0, .slice none 0 0, .slice none 0 0] 82) := ⟨_, rfl⟩
  have HF := Lib.hid (show Below w.heap.size w W by rw [hW]; exact ((Below.refl _ _).alloc (Nat.le_refl _) _).alloc (by simp) _)
  have HZ := Lib.hid (show CellsN W w.heap.size [.int .i64 p.ref, .string p.nm, .slice A2 2 c2, .slice none 0 0, .slice A4 p.box.length c4, .int .i64 p.ticks, .slice A6 p.ws.length c6, .slice A7 p.ls.length c7] by rw [hW]; exact (cellsN_new w _ _).fr (D := fun _ => False) ((Fr.refl _ _).alloc _) (fun h => h))
  have HY := Lib.hid (show CellsN W (w.heap.size + 1) [.int .i64 0, .string ⟨#[]⟩, .slice none 0 0, .slice none 0 0, .slice none 0 0, .int .i64 0, .slice none 0 0, .slice none 0 0] by rw [hW]; simpa using cellsN_new (w.alloc (.cells #[.int .i64 p.ref, .string p.nm, .slice A2 2 c2, .slice none 0 0, .slice A4 p.box.length c4, .int .i64 p.ticks, .slice A6 p.ws.length c6, .slice A7 p.ls.length c7] 82)) [.int .i64 0, .string ⟨#[]⟩, .slice none 0 0, .slice none 0 0, .slice none 0 0, .int .i64 0, .slice none 0 0, .slice none 0 0] 82)
  have hz : w.heap.size + 2 = W.heap.size := by rw [hW]; simp
  have HV := Lib.hid (h5.frame HF.out.size (fun b hb hlt => ⟨hb, HF.out.block b hlt⟩))
  have HL := Lib.hid (h6.frame HF.out.size (fun b hb hlt => ⟨hb, HF.out.block b hlt⟩))
  have H6 := Lib.hid R6
  have H7 := Lib.hid R7
  have HVD := Lib.hid (show RdV W.drew S A2 2 p.st from RdV.frame h5 HF.out.size (fun b hb hlt => ⟨hb, HF.out.block b hlt⟩))
  have HA6 := Lib.hid (show A6 = none → p.ws.length = 0 from hn6)
  have HA7 := Lib.hid (show A7 = none → p.ls.length = 0 from hn7)
  have HWW := Lib.hid hW
  have HM := Lib.hid hm
  have HS := Lib.hid hs
  have z0 := HZ.out.1 0 _ rfl
  have z1 := HZ.out.1 1 _ rfl
  have z2 := HZ.out.1 2 _ rfl
  have z3 := HZ.out.1 3 _ rfl
  have z4 := HZ.out.1 4 _ rfl
  have z5 := HZ.out.1 5 _ rfl
  have z6 := HZ.out.1 6 _ rfl
  have z7 := HZ.out.1 7 _ rfl
  have zf := HZ.out.2.1
  clear h5 h6 h7 h8 R6 R7 hW hm hs hn6 hn7
  go_enter Tryz.func65, Tryz.ntmps65
  go_wp2_with fail
  rw [← HWW.out]
  go_cut [] (fun wx => ∃ A2' c2' A4' c4' C4, CellsN wx w.heap.size [.int .i64 p.ref, .string p.nm, .slice A2' 2 c2', .slice none 0 0, .slice A4' p.box.length c4', .int .i64 p.ticks, .slice A6 p.ws.length c6, .slice A7 p.ls.length c7] ∧ CellsN wx (w.heap.size + 1) [.int .i64 0, .string ⟨#[]⟩, .slice none 0 0, .slice none 0 0, .slice none 0 0, .int .i64 0, .slice none 0 0, .slice none 0 0] ∧ Hid (2 ≤ c2' ∧ c2' ≤ 9223372036854775807 ∧ RdV wx (fun b => W.heap.size ≤ b) A2' 2 p.st) ∧ Hid (LRow wx W.heap.size (.slice A4' p.box.length c4') p.box.length C4 (nthL p.box)) ∧ Hid (Fr (fun k => k = w.heap.size) W wx))
  case first =>
    go_region_with (first
      | (go_at_call 97; refine (saved_any p.nm 2 c2 A2 p.st S _ (by omega) HVD.out HS.out).mono ?_; rintro e w1 ⟨A2', c2', rfl, q1, q2, q3, hb1⟩; have HB1 := Lib.hid (show Fr (fun _ => False) W w1 from Fr.of_below (below_drew' hb1)); have HQ := Lib.hid (And.intro q1 (And.intro q2 q3)); have HZ1 := Lib.hid (HZ.out.fr HB1.out (fun h => h)); have HY1 := Lib.hid (HY.out.fr HB1.out (fun h => h)); have x4 := HZ1.out.1 4 _ rfl; clear q1 q2 q3 hb1)
      | (go_at_call 55; refine (leach_any p.box.length c4 A4 (nthL p.box) S w1 (by omega) (HL.out.frame HB1.out.size (fun b hb hlt => ⟨hb, HB1.out.block b hlt (fun h => h)⟩)) HM.out).mono ?_; rintro e w2 ⟨v2, C2, rfl, hown2, hCl2, hCv2, hb2⟩; obtain ⟨A4', c4', hv2, _, _, _⟩ := own_any hown2; subst hv2; have HLR := Lib.hid (LRow.mk (arg := nthL p.box) hown2 hCl2 hCv2); have HB2 := Lib.hid (show Fr (fun _ => False) w1 w2 from Fr.of_below hb2); have HZ2 := Lib.hid (HZ1.out.fr HB2.out (fun h => h)); have HY2 := Lib.hid (HY1.out.fr HB2.out (fun h => h)); have u0 := HZ2.out.1 0 _ rfl; have u1 := HZ2.out.1 1 _ rfl; have u2 := HZ2.out.1 2 _ rfl; have u3 := HZ2.out.1 3 _ rfl; have u4 := HZ2.out.1 4 _ rfl; have u5 := HZ2.out.1 5 _ rfl; have u6 := HZ2.out.1 6 _ rfl; have u7 := HZ2.out.1 7 _ rfl; have uf := HZ2.out.2.1; clear hown2 hCl2 hCv2 hb2))
    all_goals
      go_wp2_with fail
      go_meet
      refine ⟨A2', c2', A4', c4', C2, cells8_of (by simp [go_sem, u0]) (by simp [go_sem, u1]) (by simp [go_sem, u2]) (by simp [go_sem, u3]) (by simp [go_sem, u4]) (by simp [go_sem, u5]) (by simp [go_sem, u6]) (by simp [go_sem, u7]) (fun o => by simp [go_sem, uf]), HY2.out.fr (D := fun k => k = w.heap.size) ?_ (by omega), Lib.hid ⟨HQ.out.1, HQ.out.2.1, ?_⟩, Lib.hid ?_, Lib.hid ?_⟩
      · iterate 4 (refine Fr.setAt ?_ _)
        exact Fr.refl _ _
      · refine RdV.fr3 (D := fun k => k = w.heap.size) HQ.out.2.2 ?_ (fun k hk => by omega)
        iterate 4 (refine Fr.setAt ?_ _)
        exact HB2.out.weak (fun _ h => h.elim)
      · refine LRow.fr (S := fun k => k = w.heap.size) (HLR.out.lower (base' := W.heap.size) HB1.out.size) ?_ (fun k hk => by omega)
        iterate 4 (refine Fr.setAt ?_ _)
        exact Fr.refl _ _
      · iterate 4 (refine Fr.setAt ?_ _)
        exact (HB1.out.trans' HB2.out).weak (fun _ h => h.elim)
  case rest =>
    obtain ⟨A2', c2', A4', c4', C4, HZc, HYc, HQ, HLR, HFC⟩ := hcut
    generalize wc = wc1 at *
    have HZC := Lib.hid HZc
    have HYC := Lib.hid HYc
    clear HZc HYc z0 z1 z2 z3 z4 z5 z6 z7 zf HZ HY HV HL HVD
    have z0 := HZC.out.1 0 _ rfl
    have z1 := HZC.out.1 1 _ rfl
    have z2 := HZC.out.1 2 _ rfl
    have z3 := HZC.out.1 3 _ rfl
    have z4 := HZC.out.1 4 _ rfl
    have z5 := HZC.out.1 5 _ rfl
    have z6 := HZC.out.1 6 _ rfl
    have z7 := HZC.out.1 7 _ rfl
    have zf := HZC.out.2.1
    have HR6 := Lib.hid (fun W9 (hf : Fr (fun k => k = w.heap.size) W W9) => show Rd W9 1 (tmC (lst p.ws)) A6 p.ws.length from rd_new H6.out HF.out hf)
    have HR7 := Lib.hid (fun W9 (hf : Fr (fun k => k = w.heap.size) W W9) => show Rd W9 1 (tmC (lst p.ls)) A7 p.ls.length from rd_new H7.out HF.out hf)
    go_wp2_with fail
    go_cut [] (fun wx => ∃ A6' c6' A7' c7', CellsN wx w.heap.size [.int .i64 p.ref, .string p.nm, .slice A2' 2 c2', .slice none 0 0, .slice A4' p.box.length c4', .int .i64 p.ticks, .slice A6' p.ws.length c6', .slice A7' p.ls.length c7'] ∧ CellsN wx (w.heap.size + 1) [.int .i64 0, .string ⟨#[]⟩, .slice none 0 0, .slice none 0 0, .slice none 0 0, .int .i64 0, .slice none 0 0, .slice none 0 0] ∧ Hid (OwnI wx W.heap.size (.slice A6' p.ws.length c6') p.ws) ∧ Hid (OwnI wx W.heap.size (.slice A7' p.ls.length c7') p.ls) ∧ Hid (Fr (fun k => k = w.heap.size) wc1 wx))
    case first =>
      go_region_with (first
        | (go_at_call_of 98 (Value.slice A6 p.ws.length c6); refine (cloneInt A6 p.ws.length c6 (tmC (lst p.ws)) _ (HR6.out _ HFC.out.drew) (tmC_len _) (tmC_one _) HA6.out (by omega)).mono ?_; rintro e w1 ⟨v1, rfl, hown1, hb1⟩; rw [flatC_lst] at hown1; have HO1 := Lib.hid (show OwnI w1 wc1.heap.size v1 p.ws from hown1); obtain ⟨A6', c6', hv1, _, _, _⟩ := own_any hown1; subst hv1; have HB1 := Lib.hid (show Fr (fun _ => False) wc1 w1 from Fr.of_below (below_drew' hb1)); have HZ1 := Lib.hid (HZC.out.fr HB1.out (fun h => h)); have HY1 := Lib.hid (HYC.out.fr HB1.out (fun h => h)); have x7 := HZ1.out.1 7 _ rfl; clear hown1 hb1)
        | (go_at_call_of 98 (Value.slice A7 p.ls.length c7); refine (cloneInt A7 p.ls.length c7 (tmC (lst p.ls)) _ (HR7.out _ (HFC.out.trans' (HB1.out.weak (fun _ h => h.elim)))) (tmC_len _) (tmC_one _) HA7.out (by omega)).mono ?_; rintro e w2 ⟨v2, rfl, hown2, hb2⟩; rw [flatC_lst] at hown2; have HO2 := Lib.hid (show OwnI w2 w1.heap.size v2 p.ls from hown2); obtain ⟨A7', c7', hv2, _, _, _⟩ := own_any hown2; subst hv2; have HB2 := Lib.hid (show Fr (fun _ => False) w1 w2 from Fr.of_below hb2); have HZ2 := Lib.hid (HZ1.out.fr HB2.out (fun h => h)); have HY2 := Lib.hid (HY1.out.fr HB2.out (fun h => h)); have u0 := HZ2.out.1 0 _ rfl; have u1 := HZ2.out.1 1 _ rfl; have u2 := HZ2.out.1 2 _ rfl; have u3 := HZ2.out.1 3 _ rfl; have u4 := HZ2.out.1 4 _ rfl; have u5 := HZ2.out.1 5 _ rfl; have u6 := HZ2.out.1 6 _ rfl; have u7 := HZ2.out.1 7 _ rfl; have uf := HZ2.out.2.1; clear hown2 hb2))
      all_goals
        go_wp2_with fail
        go_meet
        refine ⟨A6', c6', A7', c7', cells8_of (by simp [go_sem, u0]) (by simp [go_sem, u1]) (by simp [go_sem, u2]) (by simp [go_sem, u3]) (by simp [go_sem, u4]) (by simp [go_sem, u5]) (by simp [go_sem, u6]) (by simp [go_sem, u7]) (fun o => by simp [go_sem, uf]), HY2.out.fr (D := fun k => k = w.heap.size) ?_ (by omega), Lib.hid ?_, Lib.hid ?_, Lib.hid ?_⟩
        · iterate 2 (refine Fr.setAt ?_ _)
          exact Fr.refl _ _
        · refine OwnI.fr (S := fun k => k = w.heap.size) (OwnI.mono (base' := W.heap.size) HO1.out (by have := HFC.out.size; omega)) ?_ (fun k hk hq => by have := (HO1.out.blk k hk).1; have := HFC.out.size; omega)
          iterate 2 (refine Fr.setAt ?_ _)
          exact HB2.out.weak (fun _ h => h.elim)
        · refine OwnI.fr (S := fun k => k = w.heap.size) (OwnI.mono (base' := W.heap.size) HO2.out (by have := HFC.out.size; have := HB1.out.size; omega)) ?_ (fun k hk hq => by have := (HO2.out.blk k hk).1; have := HFC.out.size; have := HB1.out.size; omega)
          iterate 2 (refine Fr.setAt ?_ _)
          exact Fr.refl _ _
        · iterate 2 (refine Fr.setAt ?_ _)
          exact (HB1.out.trans' HB2.out).weak (fun _ h => h.elim)
    case rest =>
      obtain ⟨A6', c6', A7', c7', HZd, HYd, HO6, HO7, HFD⟩ := hcut
      have HZD := Lib.hid HZd
      have HYD := Lib.hid HYd
      clear HZd HYd z0 z1 z2 z3 z4 z5 z6 z7 zf HZC HYC HR6 HR7
      have z0 := HZD.out.1 0 _ rfl
      have z1 := HZD.out.1 1 _ rfl
      have z2 := HZD.out.1 2 _ rfl
      have z3 := HZD.out.1 3 _ rfl
      have z4 := HZD.out.1 4 _ rfl
      have z5 := HZD.out.1 5 _ rfl
      have z6 := HZD.out.1 6 _ rfl
      have z7 := HZD.out.1 7 _ rfl
      have y0 := HYD.out.1 0 _ rfl
      have y1 := HYD.out.1 1 _ rfl
      have y2 := HYD.out.1 2 _ rfl
      have y3 := HYD.out.1 3 _ rfl
      have y4 := HYD.out.1 4 _ rfl
      have y5 := HYD.out.1 5 _ rfl
      have y6 := HYD.out.1 6 _ rfl
      have y7 := HYD.out.1 7 _ rfl
      have yf := HYD.out.2.1
      go_wp2_with fail
      refine bodyPost_ret (v := .agg #[.int .i64 p.ref, .string p.nm, .slice A2' 2 c2', .slice none 0 0, .slice A4' p.box.length c4', .int .i64 p.ticks, .slice A6' p.ws.length c6', .slice A7' p.ls.length c7']) (by simp [results, Tryz.results65, go_sem, y0, y1, y2, y3, y4, y5, y6, y7]) rfl ⟨A2', c2', A4', c4', C4, A6', c6', A7', c7', rfl, HQ.out.1, HQ.out.2.1, ?_, ?_, ?_, ?_, ?_⟩
      · refine RdV.lower (B := W.heap.size) (RdV.fr3 (D := fun k => k = w.heap.size ∨ k = w.heap.size + 1) HQ.out.2.2 (Fr.trans' (w1 := wc) (HFD.out.weak (fun _ h => .inl h)) (Fr.weak (S := fun k => k = w.heap.size + 1) ?_ (fun _ h => .inr h))) (fun k hk => by omega)) (by omega)
        iterate 8 (refine Fr.setAt ?_ _)
        exact Fr.refl _ _
      · refine LRow.lower (base := W.heap.size) (LRow.fr (S := fun k => k = w.heap.size ∨ k = w.heap.size + 1) HLR.out (Fr.trans' (w1 := wc) (HFD.out.weak (fun _ h => .inl h)) (Fr.weak (S := fun k => k = w.heap.size + 1) ?_ (fun _ h => .inr h))) (fun k hk => by omega)) (by omega)
        iterate 8 (refine Fr.setAt ?_ _)
        exact Fr.refl _ _
      · refine OwnI.fr (S := fun k => k = w.heap.size + 1) (OwnI.mono (base' := w.heap.size) HO6.out (by omega)) ?_ (fun k hk hq => by have := (HO6.out.blk k hk).1; omega)
        iterate 8 (refine Fr.setAt ?_ _)
        exact Fr.refl _ _
      · refine OwnI.fr (S := fun k => k = w.heap.size + 1) (OwnI.mono (base' := w.heap.size) HO7.out (by omega)) ?_ (fun k hk hq => by have := (HO7.out.blk k hk).1; omega)
        iterate 8 (refine Fr.setAt ?_ _)
        exact Fr.refl _ _
      · iterate 8 (refine below_set ?_ (by omega))
        have h1 : Fr (fun k => w.heap.size ≤ k) w W := Fr.of_below HF.out
        exact (h1.trans' ((HFC.out.trans' HFD.out).weak (fun k hk => by omega))).below (fun k hk => hk) (Nat.le_refl _)
end Go.Proofs.YtjjfglbcikaicaaGreat
namespace Go.Proofs.YtjjfglbcikaicaaGreat
open Go.RowKit Go.Maps
set_option linter.unusedVariables false
set_option linter.unusedSimpArgs false
theorem row1_cl : Li.EqRow 96 := fun a A B n m c d ref b w hb hc => by
  go_enter Tryz.func96, Tryz.ntmps96
  go_wp2_with fail
  go_ret
  exact ⟨rfl, (Below.refl _ _).alloc (Nat.le_refl _) _⟩
theorem row1_enters : Enters Tryz.prog 96 := fun _ _ => by kernel_rfl
/-- the row of one; an empty one, if there is none -/
def rowD (rows : List Li.LR) (ref : Int) : Li.LR := (rowL rows ref).getD dRow
theorem numIn_sl {w : World} {v : Value} {l : List Int} (h : Li.Sl w v l) : NumIn w (fun b => b < w.heap.size) v l := by
  obtain ⟨A, c, e, h1, h2, h3, h4⟩ := h
  refine ⟨A, c, e, h1, h2, fun h0 => ?_⟩
  obtain ⟨b, off, e2, hb, hc⟩ := h4 h0
  refine ⟨b, off, e2, hb, fun j hj => ?_⟩
  have := hc j hj 0 _ rfl
  rw [Nat.mul_one, Nat.add_zero] at this
  exact this
def RowPost (B : Nat → Prop) (r : Li.LR) (w : World) (e : Ending) (w' : World) : Prop := ∃ v1 v2, e = .returned (.agg #[.int .i64 r.ref, v1, v2]) ∧ NumIn w' B v1 r.ws ∧ NumIn w' B v2 r.ls ∧ Below w.heap.size w w'
theorem numIn_nil' (w : World) (B : Nat → Prop) : NumIn w B (.slice none 0 0) [] := ⟨none, 0, rfl, Nat.le_refl _, by omega, fun h => by simp at h⟩
set_option maxRecDepth 100000 in
set_option maxHeartbeats 4000000 in
theorem row_any {w0 w : World} {X M : Nat → Prop} {base T p : Nat} {P : Int → Nat} {N : NdS} (h : NodeAt w0 X M base T p P N) (hf0 : Fr (fun _ => False) w0 w) (ref : Int) :
    Calls Tryz.prog 64 #[.pointer (some ⟨p, 0, none⟩), .int .i64 ref] w (RowPost (fun b => b < w0.heap.size) (rowD N.rows ref) w) := by
  have hok := h.ok.rows.ok
  obtain ⟨_, _, _, mb, hb, MA, ob, sb, h4, _⟩ := h
  obtain ⟨v4, c40, hr⟩ := h4.c4
  have c4 := hf0.cell c40 (fun h => h)
  have hplt := World.block_lt_of_cell? w _ c4
  obtain ⟨A, c, vw, vl, rfl, k1, k2, hR0⟩ := hr.form
  have HR0 := Lib.hid hR0
  have hR := hR0.below (hf0.below (fun _ h => h.elim) (Nat.le_refl _))
  have HF0 := Lib.hid hf0
  have HR := Lib.hid hR
  have h100 := hok.1
  obtain ⟨W, hW⟩ : ∃ W, W = (w.alloc (.cells #[.int .i64 ref] 3)).alloc (.cells #[.int .i64 0, .slice none 0 0, .slice none 0 0] 132) := ⟨_, rfl⟩
  have hbz : Below w.heap.size w W := by rw [hW]; exact ((Below.refl _ _).alloc (Nat.le_refl _) _).alloc (by simp) _
  have HB := Lib.hid hbz
  have HZ := Lib.hid (show CellsN W (w.heap.size + 1) [.int .i64 0, .slice none 0 0, .slice none 0 0] by rw [hW]; simpa using cellsN_new (w.alloc (.cells #[.int .i64 ref] 3)) [.int .i64 0, .slice none 0 0, .slice none 0 0] 132)
  have HIX := Lib.hid (Li.ix_row 96 row1_enters row1_cl A N.rows.length c (rowF N.rows) vw vl ref w.heap.size W (by omega) (hR.below hbz) (by rw [hW]; simp; omega) (by rw [hW]; simp [go_sem]))
  have HWW := Lib.hid hW
  clear hr hR hR0 hbz h4 hW hf0 c40
  by_cases hi : ∃ i, Li.OkIx (rowF N.rows) N.rows.length ref i
  · obtain ⟨i, hi⟩ := hi
    have HI := Lib.hid hi.ix
    have HRD := Lib.hid (show rowD N.rows ref = rowF N.rows i by unfold rowD; rw [okIx_iff hok hi]; rfl)
    have hlt := hi.2.1
    clear hi hok
    go_enter Tryz.func64, Tryz.ntmps64
    go_wp2_with fail
    rw [← HWW.out]
    refine HIX.out.mono ?_
    rintro e w2 ⟨rfl, hb2⟩
    rw [HI.out]
    have HB2 := Lib.hid (HB.out.trans (hb2.mono HB.out.size))
    have HZ2 := Lib.hid (HZ.out.fr (Fr.of_below (S := fun _ => False) hb2) (fun h => h))
    have d4 := (HB2.out.cell (p := ⟨p, 4, none⟩) hplt).trans c4
    obtain ⟨b, off, rfl, hb0, hc⟩ := (HR.out.below HB2.out).row (by omega)
    have r0 := hc i hlt 0 _ rfl
    have r1 := hc i hlt 1 _ rfl
    have r2 := hc i hlt 2 _ rfl
    rw [Nat.add_zero] at r0
    obtain ⟨⟨B1, e1, hv1, s1⟩, ⟨B2, e2, hv2, s2⟩⟩ := HR0.out.each i hlt
    rw [hv1] at r1
    rw [hv2] at r2
    have HS := Lib.hid (show NumIn w0 (fun b => b < w0.heap.size) (.slice B1 (rowF N.rows i).ws.length e1) (rowF N.rows i).ws ∧ NumIn w0 (fun b => b < w0.heap.size) (.slice B2 (rowF N.rows i).ls.length e2) (rowF N.rows i).ls from ⟨numIn_sl ⟨B1, e1, rfl, s1⟩, numIn_sl ⟨B2, e2, rfl, s2⟩⟩)
    clear hv1 hv2 s1 s2
    have z0 := HZ2.out.1 0 _ rfl
    have z1 := HZ2.out.1 1 _ rfl
    have z2 := HZ2.out.1 2 _ rfl
    have zf := HZ2.out.2.1
    have i1 : (0 : Int) ≤ (i : Int) := by omega
    have i2 : (i : Int) < (N.rows.length : Int) := by omega
    have i3 : ¬ (i : Int) < 0 := by omega
    clear hb2 hc c4
    go_wp2_with fail
    refine bodyPost_ret (v := .agg #[.int .i64 (rowF N.rows i).ref, .slice B1 (rowF N.rows i).ws.length e1, .slice B2 (rowF N.rows i).ls.length e2]) (by simp [results, Tryz.results64, go_sem, z0, z1, z2]) rfl ?_
    rw [HRD.out]
    have hfin : Fr (fun k => w.heap.size ≤ k) w (((w2.setCell ⟨w.heap.size + 1, 0, none⟩ (.int .i64 (rowF N.rows i).ref)).setCell ⟨w.heap.size + 1, 1, none⟩ (.slice B1 (rowF N.rows i).ws.length e1)).setCell ⟨w.heap.size + 1, 2, none⟩ (.slice B2 (rowF N.rows i).ls.length e2)) := (((Fr.of_below (S := fun k => w.heap.size ≤ k) HB2.out).set (Or.inl (by show w.heap.size ≤ w.heap.size + 1; omega)) _).set (Or.inl (by show w.heap.size ≤ w.heap.size + 1; omega)) _).set (Or.inl (by show w.heap.size ≤ w.heap.size + 1; omega)) _
    have hz0 := HF0.out.size
    have hf9 : Fr (fun k => w.heap.size ≤ k) w0 _ := (HF0.out.weak (fun _ h => h.elim)).trans' hfin
    exact ⟨_, _, rfl, HS.out.1.fr hf9 (fun b hb hD => by have h1 : b < w0.heap.size := hb; have h2 : w.heap.size ≤ b := hD; omega) (fun _ h => h), HS.out.2.fr hf9 (fun b hb hD => by have h1 : b < w0.heap.size := hb; have h2 : w.heap.size ≤ b := hD; omega) (fun _ h => h), hfin.below (fun k hk => hk) (Nat.le_refl _)⟩
  · have HI := Lib.hid (Li.ix_none hok hi)
    have HRD := Lib.hid (show rowD N.rows ref = dRow by unfold rowD; rw [rowL_none hok hi]; rfl)
    clear hi hok
    go_enter Tryz.func64, Tryz.ntmps64
    go_wp2_with fail
    rw [← HWW.out]
    refine HIX.out.mono ?_
    rintro e w2 ⟨rfl, hb2⟩
    rw [HI.out]
    have HB2 := Lib.hid (HB.out.trans (hb2.mono HB.out.size))
    have HZ2 := Lib.hid (HZ.out.fr (Fr.of_below (S := fun _ => False) hb2) (fun h => h))
    have z0 := HZ2.out.1 0 _ rfl
    have z1 := HZ2.out.1 1 _ rfl
    have z2 := HZ2.out.1 2 _ rfl
    have zf := HZ2.out.2.1
    clear hb2
    go_wp2_with fail
    refine bodyPost_ret (v := .agg #[.int .i64 0, .slice none 0 0, .slice none 0 0]) (by simp [results, Tryz.results64, go_sem, z0, z1, z2]) rfl ?_
    rw [HRD.out]
    refine ⟨_, _, rfl, numIn_nil' _ _, numIn_nil' _ _, ?_⟩
    iterate 3 (refine below_set ?_ (by omega))
    exact HB2.out
set_option maxRecDepth 100000 in
set_option maxHeartbeats 4000000 in
theorem nsave_any {w : World} {X M : Nat → Prop} {base T p : Nat} {P : Int → Nat} {N : NdS} (h : NodeAt w X M base T p P N) {ref : Int} {a : ActS} (ha : N.find ref = some a) (hw : a.waits = true) :
    Calls Tryz.prog 63 #[.pointer (some ⟨p, 0, none⟩), .int .i64 ref] w (SavedPost a.d.nm 2 (topV a.d.r) w (fun v => .tuple #[v, .int .i64 0])) := by
  have hplt := h.p_lt
  obtain ⟨hm, hr⟩ := find_some ha
  have hok := h.ok.act a hm
  obtain ⟨pa, b, rb, kb, ib, MA, mb, hpa, c3, hA, hMA, hlk, -⟩ := h.act ha
  have hlook := fun (W : World) (hf : Fr (fun _ => False) w W) => hlk W (hf.weak (fun _ h => h.elim))
  have HLK := Lib.hid hlook
  have a0 := hA.a0
  have a4 := hA.a4
  rw [hw] at a4
  have hpl := hA.lt.1
  obtain ⟨W, hW⟩ : ∃ W, W = w.alloc (.cells #[.string ⟨#[]⟩, .slice none 0 0, .slice none 0 0] 80) := ⟨_, rfl⟩
  have hfW : Fr (fun _ => False) w W := by rw [hW]; exact (Fr.refl _ _).alloc _
  have hdia : DiaAt W X base T b rb ib a.d := hA.dia.fr hfW (fun _ h => h.elim) (fun k hk => .inl hk) (fun _ h => h.elim) (Nat.le_refl _) (fun h => h) (fun h => h) (fun _ _ h => h)
  have HS := Lib.hid (dsave_any X base T b rb ib a.d W hdia (hok.waits hw))
  have HZ := Lib.hid (show CellsN W w.heap.size [.string ⟨#[]⟩, .slice none 0 0, .slice none 0 0] by rw [hW]; exact cellsN_new w _ _)
  have HF := Lib.hid hfW
  have HWW := Lib.hid hW
  have d0 := hfW.cell a0 (fun h => h)
  have d3 := hfW.cell c3 (fun h => h)
  have d4 := hfW.cell a4 (fun h => h)
  have hl1 := hlook (w.alloc (.cells #[.string ⟨#[]⟩, .slice none 0 0, .slice none 0 0] 80)) ((Fr.refl _ _).alloc _)
  have hzW := hfW.size
  clear h ha hok hA hMA hlk hdia hW hfW hpa hm hlook
  have HD := Lib.hid (And.intro d0 (And.intro d3 d4))
  clear d0 d3 d4
  go_enter Tryz.func63, Tryz.ntmps63
  go_wp2_with fail
  rw [← HWW.out]
  refine HS.out.mono ?_
  rintro e w1 ⟨A', c', rfl, q1, q2, q3, hb1⟩
  have HQ := Lib.hid q3
  have HB := Lib.hid hb1
  have HZ1 := Lib.hid (HZ.out.fr (Fr.of_below (S := fun _ => False) hb1) (fun h => h))
  have z0 := HZ1.out.1 0 _ rfl
  have z1 := HZ1.out.1 1 _ rfl
  have z2 := HZ1.out.1 2 _ rfl
  have zf := HZ1.out.2.1
  clear q3 hb1 a0 a4 c3 hl1
  go_wp2_with fail
  refine bodyPost_ret (v := .tuple #[.agg #[.string a.d.nm, .slice A' 2 c', .slice none 0 0], .int .i64 0]) (by simp [results, Tryz.results63, go_sem, z0, z1, z2]) rfl ⟨A', c', rfl, q1, q2, ?_, ?_⟩
  · refine RdV.lower (B := W.heap.size) (RdV.fr3 (D := fun k => k = w.heap.size) HQ.out ?_ (fun k hk => by have := HZ.out.2.2; omega)) hzW
    iterate 3 (refine Fr.setAt ?_ _)
    exact Fr.refl _ _
  · iterate 3 (refine below_set ?_ (Nat.le_refl _))
    exact (HF.out.below (fun _ h => h.elim) (Nat.le_refl _)).trans (HB.out.mono hzW)
def SaveNo (x : Int) (w : World) (e : Ending) (w' : World) : Prop := e = .returned (.tuple #[.agg #[.string ⟨#[]⟩, .slice none 0 0, .slice none 0 0], .int .i64 x]) ∧ Below w.heap.size w w'
set_option maxRecDepth 100000 in
set_option maxHeartbeats 4000000 in
theorem nsave_no {w : World} {X M : Nat → Prop} {base T p : Nat} {P : Int → Nat} {N : NdS} (h : NodeAt w X M base T p P N) {ref : Int} {a : ActS} (ha : N.find ref = some a) (hw : a.waits = false) :
    Calls Tryz.prog 63 #[.pointer (some ⟨p, 0, none⟩), .int .i64 ref] w (SaveNo 9 w) := by
  have hplt := h.p_lt
  obtain ⟨pa, b, rb, kb, ib, MA, mb, hpa, c3, hA, hMA, hlk, -⟩ := h.act ha
  have a4 := hA.a4
  rw [hw] at a4
  have hpl := hA.lt.1
  have hl1 := hlk (w.alloc (.cells #[.string ⟨#[]⟩, .slice none 0 0, .slice none 0 0] 80)) ((Fr.refl _ _).alloc _)
  clear h ha hA hMA hlk hpa hw
  go_enter Tryz.func63, Tryz.ntmps63
  go_wp2_with fail
  refine bodyPost_ret (v := .tuple #[.agg #[.string ⟨#[]⟩, .slice none 0 0, .slice none 0 0], .int .i64 9]) (by simp [results, Tryz.results63, go_sem]) rfl ⟨rfl, ?_⟩
  exact (Below.refl _ _).alloc (Nat.le_refl _) _
set_option maxRecDepth 100000 in
set_option maxHeartbeats 4000000 in
theorem nsave_none {w : World} {X M : Nat → Prop} {base T p : Nat} {P : Int → Nat} {N : NdS} (h : NodeAt w X M base T p P N) {ref : Int} (hr : Wf ref) (hn : N.has ref = false) :
    Calls Tryz.prog 63 #[.pointer (some ⟨p, 0, none⟩), .int .i64 ref] w (SaveNo 4 w) := by
  have hplt := h.p_lt
  obtain ⟨mb, c3, hmb, _, hlk1, hlk2⟩ := h.look
  have hl1 := hlk2 ref hr hn (w.alloc (.cells #[.string ⟨#[]⟩, .slice none 0 0, .slice none 0 0] 80)) ((Fr.refl _ _).alloc _)
  clear h hlk1 hlk2
  go_enter Tryz.func63, Tryz.ntmps63
  go_wp2_with fail
  refine bodyPost_ret (v := .tuple #[.agg #[.string ⟨#[]⟩, .slice none 0 0, .slice none 0 0], .int .i64 4]) (by simp [results, Tryz.results63, go_sem]) rfl ⟨rfl, ?_⟩
  exact (Below.refl _ _).alloc (Nat.le_refl _) _
/-- one goes on for sure -/
def canL (N : NdS) (ref : Int) : Bool := match N.find ref with
  | some a => !a.waits
  | none => false
set_option maxRecDepth 100000 in
set_option maxHeartbeats 4000000 in
theorem canL_any {w : World} {X M : Nat → Prop} {base T p : Nat} {P : Int → Nat} {N : NdS} (h : NodeAt w X M base T p P N) {ref : Int} (hr : Wf ref) :
    Calls Tryz.prog 39 #[.pointer (some ⟨p, 0, none⟩), .int .i64 ref] w fun e w' => e = .returned (.bool (canL N ref)) ∧ Below w.heap.size w w' := by
  rcases ha : N.find ref with _ | a
  · have hn : N.has ref = false := by unfold NdS.has; rw [ha]; rfl
    have HS := Lib.hid (nsave_none h hr hn)
    have HC := Lib.hid (show canL N ref = false by unfold canL; rw [ha])
    clear h ha hn
    go_enter Tryz.func39, Tryz.ntmps39
    go_wp2_with fail
    refine HS.out.mono ?_
    rintro e w1 ⟨rfl, hb⟩
    have HB := Lib.hid hb
    clear hb
    go_wp2_with fail
    go_ret
    exact ⟨by rw [HC.out]; rfl, HB.out.alloc HB.out.size _⟩
  · rcases hw : a.waits with _ | _
    · have HS := Lib.hid (nsave_no h ha hw)
      have HC := Lib.hid (show canL N ref = true by unfold canL; rw [ha]; show (!a.waits) = true; rw [hw]; rfl)
      clear h ha hw
      go_enter Tryz.func39, Tryz.ntmps39
      go_wp2_with fail
      refine HS.out.mono ?_
      rintro e w1 ⟨rfl, hb⟩
      have HB := Lib.hid hb
      clear hb
      go_wp2_with fail
      go_ret
      exact ⟨by rw [HC.out]; rfl, HB.out.alloc HB.out.size _⟩
    · have HS := Lib.hid (nsave_any h ha hw)
      have HC := Lib.hid (show canL N ref = false by unfold canL; rw [ha]; show (!a.waits) = false; rw [hw]; rfl)
      clear h ha hw
      go_enter Tryz.func39, Tryz.ntmps39
      go_wp2_with fail
      refine HS.out.mono ?_
      rintro e w1 ⟨A', c', rfl, _, _, _, hb⟩
      have HB := Lib.hid hb
      clear hb
      go_wp2_with fail
      go_ret
      exact ⟨by rw [HC.out]; rfl, HB.out.alloc HB.out.size _⟩
end Go.Proofs.YtjjfglbcikaicaaGreat
namespace Go.Proofs.YtjjfglbcikaicaaGreat
open Go.RowKit Go.Maps
set_option linter.unusedVariables false
set_option linter.unusedSimpArgs false
/-- the parcel of an actor -/
def pclN (N : NdS) (a : ActS) : PclS := ⟨a.ref, a.d.nm, topV a.d.r, a.box, a.ticks, (rowD N.rows a.ref).ws, (rowD N.rows a.ref).ls⟩
theorem rowD_ok {rows : List Li.LR} (ok : Li.OkL (rowF rows) rows.length) (ref : Int) : (rowD rows ref).ws.length ≤ 100 ∧ (rowD rows ref).ls.length ≤ 100 := by
  by_cases hi : ∃ i, Li.OkIx (rowF rows) rows.length ref i
  · obtain ⟨i, hi⟩ := hi
    unfold rowD
    rw [okIx_iff ok hi]
    exact ⟨(ok.2 i hi.2.1).2.1, (ok.2 i hi.2.1).2.2.1⟩
  · unfold rowD
    rw [rowL_none ok hi]
    exact ⟨Nat.zero_le _, Nat.zero_le _⟩
theorem cells3_of {w : World} {q : Nat} {c0 c1 c2 : Value} (h0 : w.cell? ⟨q, 0, none⟩ = some c0) (h1 : w.cell? ⟨q, 1, none⟩ = some c1) (h2 : w.cell? ⟨q, 2, none⟩ = some c2) (hf : ∀ o, w.frozen? ⟨q, o, none⟩ = false) : CellsN w q [c0, c1, c2] := ⟨fun j u hu => by
  match j, hu with
  | 0, hu => injection hu with hu; subst hu; exact h0
  | 1, hu => injection hu with hu; subst hu; exact h1
  | 2, hu => injection hu with hu; subst hu; exact h2, hf, World.block_lt_of_cell? w _ h0⟩
set_option maxRecDepth 100000 in
set_option maxHeartbeats 8000000 in
theorem parcel_any {w : World} {X M : Nat → Prop} {base T p : Nat} {P : Int → Nat} {N : NdS} (h : NodeAt w X M base T p P N) {ref : Int} {a : ActS} (ha : N.find ref = some a) (hw : a.waits = true) :
    Calls Tryz.prog 36 #[.pointer (some ⟨p, 0, none⟩), .int .i64 ref] w (PclPost (pclN N a) w (fun v => .tuple #[v, .int .i64 0])) := by
  obtain ⟨hm, rfl⟩ := find_some ha
  obtain ⟨W, hW⟩ : ∃ W, W = w.alloc (.cells #[.int .i64 0, .string ⟨#[]⟩, .slice none 0 0, .slice none 0 0, .slice none 0 0, .int .i64 0, .slice none 0 0, .slice none 0 0] 82) := ⟨_, rfl⟩
  have hfW : Fr (fun _ => False) w W := by rw [hW]; exact (Fr.refl _ _).alloc _
  have HZ := Lib.hid (show CellsN W w.heap.size [.int .i64 0, .string ⟨#[]⟩, .slice none 0 0, .slice none 0 0, .slice none 0 0, .int .i64 0, .slice none 0 0, .slice none 0 0] by rw [hW]; exact cellsN_new w _ _)
  have HN := Lib.hid (h.new hfW (fun _ h => h))
  have HA := Lib.hid ha
  have HSV := Lib.hid (nsave_any HN.out ha hw)
  have hok := h.ok.act a hm
  have HBX := Lib.hid hok.box
  have HRO := Lib.hid (rowD_ok h.ok.rows.ok a.ref)
  have hzW := hfW.size
  have HF := Lib.hid hfW
  have HWW := Lib.hid hW
  have hplt := HN.out.p_lt
  clear h ha hm hok hW hfW
  go_enter Tryz.func36, Tryz.ntmps36
  go_wp2_with fail
  rw [← HWW.out]
  refine HSV.out.mono ?_
  rintro e w1 ⟨A2, c2, rfl, q1, q2, q3, hb1⟩
  have HQ := Lib.hid (And.intro q1 (And.intro q2 q3))
  have HB1 := Lib.hid (Fr.of_below (S := fun _ => False) hb1)
  clear q1 q2 q3 hb1 HSV
  go_wp2_with fail
  obtain ⟨W2, hW2⟩ : ∃ W2, W2 = w1.alloc (.cells #[.string a.d.nm, .slice A2 2 c2, .slice none 0 0] 80) := ⟨_, rfl⟩
  have hf2 : Fr (fun _ => False) w1 W2 := by rw [hW2]; exact (Fr.refl _ _).alloc _
  have HS2 := Lib.hid (show CellsN W2 w1.heap.size [.string a.d.nm, .slice A2 2 c2, .slice none 0 0] by rw [hW2]; exact cellsN_new w1 _ _)
  have HF2 := Lib.hid (HB1.out.trans' hf2)
  have HFW12 := Lib.hid hf2
  have HN2 := Lib.hid (HN.out.new HF2.out (fun _ h => h))
  have HZ2 := Lib.hid (HZ.out.fr HF2.out (fun h => h))
  obtain ⟨pa, b, rb, kb, ib, MA, mb, hpa, c3, hA, hMA, hlk, -⟩ := HN2.out.act HA.out
  have HLK := Lib.hid hlk
  have HAG := Lib.hid hA
  have HROW := Lib.hid (fun (W9 : World) (hf : Fr (fun _ => False) W2 W9) => row_any HN2.out hf a.ref)
  have l0 := hlk W2.drew ((Fr.refl _ _).drew)
  have l1 := hlk (W2.alloc (.cells #[.int .i64 0, .slice none 0 0, .slice none 0 0] 132)).drew (((Fr.refl _ _).alloc _).drew)
  have c3' : W2.drew.cell? ⟨p, 3, none⟩ = some (.map (some mb)) := c3
  have hplt2 := HN2.out.p_lt
  rw [← hW2]
  clear hW2 hf2 hpa hA hMA hlk
  go_cut [8, 9] (fun v8 v9 wx => v8 = .pointer (some ⟨pa, 0, none⟩) ∧ ∃ q A6 c6 A7 c7, v9 = .pointer (some ⟨q, 0, none⟩) ∧ CellsN wx q [.int .i64 (rowD N.rows a.ref).ref, .slice A6 (rowD N.rows a.ref).ws.length c6, .slice A7 (rowD N.rows a.ref).ls.length c7] ∧ Hid (NumIn wx (fun b => b < W2.heap.size) (.slice A6 (rowD N.rows a.ref).ws.length c6) (rowD N.rows a.ref).ws) ∧ Hid (NumIn wx (fun b => b < W2.heap.size) (.slice A7 (rowD N.rows a.ref).ls.length c7) (rowD N.rows a.ref).ls) ∧ Hid (Fr (fun _ => False) W2 wx))
  case first =>
    go_region_with (first
      | (go_at_call 64; refine (HROW.out _ (by (repeat' first | with_reducible exact Fr.refl _ _ | (with_reducible refine Fr.setEq ?_ _) | (with_reducible refine Fr.setNew ?_ _) | with_reducible refine Fr.alloc ?_ _ | with_reducible refine Fr.drewN ?_ _ | with_reducible refine Fr.drew ?_))).mono ?_; rintro e w3 ⟨v1, v2, rfl, n1, n2, hb3⟩; have HN1 := Lib.hid n1; have HN2' := Lib.hid n2; obtain ⟨A6, c6, e6, -⟩ := n1; obtain ⟨A7, c7, e7, -⟩ := n2; subst e6; subst e7; have HF3 := Lib.hid (show Fr (fun _ => False) W2 w3 from (show Fr (fun _ => False) W2 _ by (repeat' first | with_reducible exact Fr.refl _ _ | (with_reducible refine Fr.setEq ?_ _) | (with_reducible refine Fr.setNew ?_ _) | with_reducible refine Fr.alloc ?_ _ | with_reducible refine Fr.drewN ?_ _ | with_reducible refine Fr.drew ?_)).trans' (Fr.of_below (below_drew' hb3))); (first | (have HCQ := Lib.hid ((cellsN_new W2 [.int .i64 0, .slice none 0 0, .slice none 0 0] 132).fr (D := fun _ => False) (Fr.of_below (below_drew' hb3)) (fun h => h)); have k0 := HCQ.out.1 0 _ rfl; have k1 := HCQ.out.1 1 _ rfl; have k2 := HCQ.out.1 2 _ rfl; have kf := HCQ.out.2.1) | skip); have l3 := HLK.out w3 (HF3.out.weak (fun _ h => h.elim)); have l4 := HLK.out (w3.alloc (.cells #[.int .i64 0, .slice none 0 0, .slice none 0 0] 132)) ((HF3.out.alloc _).weak (fun _ h => h.elim)); have d3 := HF3.out.cell c3 (fun h => h); have hp3 := Nat.lt_of_lt_of_le hplt2 HF3.out.size; clear hb3))
    all_goals
      go_wp2_with fail
      go_meet
      refine ⟨rfl, ?_⟩
      first
        | (refine ⟨w3.heap.size, A6, c6, A7, c7, (by with_reducible rfl), ?_, ?_, ?_, ?_⟩
           · exact cellsN_new w3 [_, _, _] _
           · exact Lib.hid (HN1.out.fr (S := fun _ => False) ((Fr.refl _ _).alloc _) (fun _ _ h => h) (fun _ h => h))
           · exact Lib.hid (HN2'.out.fr (S := fun _ => False) ((Fr.refl _ _).alloc _) (fun _ _ h => h) (fun _ h => h))
           · exact Lib.hid (HF3.out.alloc _))
        | (refine ⟨W2.heap.size, A6, c6, A7, c7, (by with_reducible rfl), ?_, ?_, ?_, ?_⟩
           · exact cells3_of (set_other (set_other (set_this k0) (by decide)) (by decide)) (set_other (set_this (set_other k1 (by decide))) (by decide)) (set_this (set_other (set_other k2 (by decide)) (by decide))) (fun o => set_fz (set_fz (set_fz kf)) o)
           · refine Lib.hid (HN1.out.fr (S := fun k => k = W2.heap.size) ?_ (fun b hb e => by have h1 : b < W2.heap.size := hb; omega) (fun _ h => h))
             iterate 3 (refine Fr.setAt ?_ _)
             exact Fr.refl _ _
           · refine Lib.hid (HN2'.out.fr (S := fun k => k = W2.heap.size) ?_ (fun b hb e => by have h1 : b < W2.heap.size := hb; omega) (fun _ h => h))
             iterate 3 (refine Fr.setAt ?_ _)
             exact Fr.refl _ _
           · exact Lib.hid (((HF3.out.set (Or.inr (Nat.le_refl _)) _).set (Or.inr (Nat.le_refl _)) _).set (Or.inr (Nat.le_refl _)) _))
  case rest =>
    obtain ⟨rfl, q, A6, c6, A7, c7, rfl, HQc, HN6, HN7, HFc⟩ := hcut
    have s0 := (HS2.out.fr HFc.out (fun h => h)).1 0 _ rfl
    have s1 := (HS2.out.fr HFc.out (fun h => h)).1 1 _ rfl
    have s2 := (HS2.out.fr HFc.out (fun h => h)).1 2 _ rfl
    have q1 := HQc.1 1 _ rfl
    have q2 := HQc.1 2 _ rfl
    have hAc := HAG.out.fr (X' := X) HFc.out (fun _ h => h.elim) (fun k hk => .inl hk) (fun _ h => h.elim) (Nat.le_refl _) (fun _ _ h => h)
    obtain ⟨A4, c4, a2, k1, k2, k3⟩ := hAc.a2
    have a5 := hAc.a5
    have HBX2 := Lib.hid (And.intro k1 (And.intro k2 k3))
    have hpl := hAc.lt.1
    have hsl : w1.heap.size < wc.heap.size := (HS2.out.fr HFc.out (fun h => h)).2.2
    have hql := HQc.2.2
    have HZc := Lib.hid (HZ2.out.fr HFc.out (fun h => h))
    have HFA := Lib.hid ((HB1.out.trans' (show Fr (fun _ => False) w1 W2 from HFW12.out)).trans' HFc.out)
    have HCP := Lib.hid (fun (W9 : World) (hf : Fr (fun _ => False) wc W9) => pcopy_any (pclN N a) [.int .i64 a.ref, .string a.d.nm, .slice A2 2 c2, .slice none 0 0, .slice A4 a.box.length c4, .int .i64 a.ticks, .slice A6 (rowD N.rows a.ref).ws.length c6, .slice A7 (rowD N.rows a.ref).ls.length c7] (fun _ => True) W9
      ⟨A2, c2, A4, c4, _, _, rfl, HQ.out.1, HQ.out.2.1, HBX2.out.1, HBX2.out.2.1, HQ.out.2.2.frame (Nat.le_trans HFW12.out.size (Nat.le_trans HFc.out.size hf.size)) (fun b hb hlt => ⟨trivial, ((HFW12.out.trans' HFc.out).trans' hf).block b hlt (fun h => h)⟩), HBX2.out.2.2.frame hf.size (fun b hb hlt => ⟨trivial, hf.block b hlt (fun h => h)⟩), HN6.out.fr hf (fun _ _ h => h) (fun _ _ => trivial), HN7.out.fr hf (fun _ _ h => h) (fun _ _ => trivial)⟩
      HBX.out.1 (fun i hi => by have := (HBX.out.2.2 _ (nthL_mem hi)).2.2.2.2.2; have h2 : (nthL (pclN N a).box i).val.many = (nthL a.box i).val.many := rfl; omega) (fun i hi => by show (topV a.d.r i).many ≤ 4194304; unfold topV; split <;> simp [vLeaf, VT.many, sumTo]) (by have := HRO.out.1; show (rowD N.rows a.ref).ws.length ≤ 1000000; omega) (by have := HRO.out.2; show (rowD N.rows a.ref).ls.length ≤ 1000000; omega))
    clear hAc k1 k2 k3 HQc l0 l1 c3' c3
    go_wp2_with fail
    go_region
    go_wp2_with fail
    refine (HCP.out _ (by (repeat' first | with_reducible exact Fr.refl _ _ | (with_reducible refine Fr.setEq ?_ _) | (with_reducible refine Fr.setNew ?_ _) | with_reducible refine Fr.alloc ?_ _ | with_reducible refine Fr.drewN ?_ _ | with_reducible refine Fr.drew ?_))).mono ?_
    rintro e w5 ⟨B2, d2, B4, d4, C4, B6, d6, B7, d7, rfl, g1, g2, g3, g4, g5, g6, hb5⟩
    simp only [id]
    have hf5 : Fr (fun _ => False) wc w5 := (show Fr (fun _ => False) wc _ by (repeat' first | with_reducible exact Fr.refl _ _ | (with_reducible refine Fr.setEq ?_ _) | (with_reducible refine Fr.setNew ?_ _) | with_reducible refine Fr.alloc ?_ _ | with_reducible refine Fr.drewN ?_ _ | with_reducible refine Fr.drew ?_)).trans' (Fr.of_below hb5)
    have HZ5 := Lib.hid (HZc.out.fr hf5 (fun h => h))
    have hzz : W.heap.size ≤ (wc.alloc (.cells #[.int .i64 a.ref, .string a.d.nm, .slice A2 2 c2, .slice none 0 0, .slice A4 a.box.length c4, .int .i64 a.ticks, .slice A6 (rowD N.rows a.ref).ws.length c6, .slice A7 (rowD N.rows a.ref).ls.length c7] 82)).drew.heap.size := by
      have h1 := HFA.out.size
      show W.heap.size ≤ (wc.alloc _).heap.size
      simp
      omega
    have hq0 : w.heap.size < W.heap.size := HZ.out.2.2
    have hlow : w.heap.size ≤ (wc.alloc (.cells #[.int .i64 a.ref, .string a.d.nm, .slice A2 2 c2, .slice none 0 0, .slice A4 a.box.length c4, .int .i64 a.ticks, .slice A6 (rowD N.rows a.ref).ws.length c6, .slice A7 (rowD N.rows a.ref).ls.length c7] 82)).drew.heap.size := by omega
    have HG3 := Lib.hid (RdV.lower g3 (by exact hzz))
    have HG4 := Lib.hid (LRow.lower g4 (by exact hzz))
    have HG5 := Lib.hid (OwnI.mono (base' := W.heap.size) g5 hzz)
    have HG6 := Lib.hid (OwnI.mono (base' := W.heap.size) g6 hzz)
    have HF5 := Lib.hid ((HF.out.trans' HFA.out).trans' hf5)
    have z0 := HZ5.out.1 0 _ rfl
    have z1 := HZ5.out.1 1 _ rfl
    have z2 := HZ5.out.1 2 _ rfl
    have z3 := HZ5.out.1 3 _ rfl
    have z4 := HZ5.out.1 4 _ rfl
    have z5 := HZ5.out.1 5 _ rfl
    have z6 := HZ5.out.1 6 _ rfl
    have z7 := HZ5.out.1 7 _ rfl
    have zf := HZ5.out.2.1
    clear g3 g4 g5 g6 hb5 hf5 hzz hlow HCP
    go_wp2_with fail
    refine bodyPost_ret (v := .tuple #[.agg #[.int .i64 a.ref, .string a.d.nm, .slice B2 2 d2, .slice none 0 0, .slice B4 a.box.length d4, .int .i64 a.ticks, .slice B6 (rowD N.rows a.ref).ws.length d6, .slice B7 (rowD N.rows a.ref).ls.length d7], .int .i64 0]) (by simp [results, Tryz.results36, go_sem, z0, z1, z2, z3, z4, z5, z6, z7, pclN]) rfl ⟨B2, d2, B4, d4, C4, B6, d6, B7, d7, rfl, g1, g2, ?_, ?_, ?_, ?_, ?_⟩
    · refine RdV.lower (B := W.heap.size) (RdV.fr3 (D := fun k => k = w.heap.size) HG3.out ?_ (fun k hk => by omega)) (by omega)
      iterate 8 (refine Fr.setAt ?_ _)
      exact Fr.refl _ _
    · refine LRow.lower (base := W.heap.size) (LRow.fr (S := fun k => k = w.heap.size) HG4.out ?_ (fun k hk => by omega)) (by omega)
      iterate 8 (refine Fr.setAt ?_ _)
      exact Fr.refl _ _
    · refine OwnI.fr (S := fun k => k = w.heap.size) (OwnI.mono (base' := w.heap.size) HG5.out (by omega)) ?_ (fun k hk hq => by have := (HG5.out.blk k hk).1; omega)
      iterate 8 (refine Fr.setAt ?_ _)
      exact Fr.refl _ _
    · refine OwnI.fr (S := fun k => k = w.heap.size) (OwnI.mono (base' := w.heap.size) HG6.out (by omega)) ?_ (fun k hk hq => by have := (HG6.out.blk k hk).1; omega)
      iterate 8 (refine Fr.setAt ?_ _)
      exact Fr.refl _ _
    · iterate 8 (refine below_set ?_ (Nat.le_refl _))
      exact HF5.out.below (fun _ h => h.elim) (Nat.le_refl _)
end Go.Proofs.YtjjfglbcikaicaaGreat
namespace Go.Proofs.YtjjfglbcikaicaaGreat
open Go.RowKit
set_option linter.unusedVariables false
/-- the numbers l, read through a slice whose block lies in S -/
def RdI (w : World) (S : Nat → Prop) (A : Option Addr) (l : List Int) : Prop :=
  0 < l.length → ∃ b off, A = some ⟨b, off, none⟩ ∧ b < w.heap.size ∧ S b ∧ ∀ j, j < l.length → w.cell? ⟨b, off + j, none⟩ = some (.int .i64 (lst l j))
/-- the lines Q, read through a slice whose blocks lie in S -/
def RdLs (w : World) (S : Nat → Prop) (A : Option Addr) (n : Nat) (Q : Nat → List Int) : Prop :=
  0 < n → ∃ b off, A = some ⟨b, off, none⟩ ∧ b < w.heap.size ∧ S b ∧ ∀ i, i < n → ∃ (qA : Option Addr) (qc : Nat), w.cell? ⟨b, off + i, none⟩ = some (.slice qA (Q i).length qc) ∧ (Q i).length ≤ qc ∧ qc ≤ 9223372036854775807 ∧ (qA = none → (Q i).length = 0) ∧ RdI w S qA (Q i)
theorem RdI.frame {w w' : World} {S S' : Nat → Prop} {A : Option Addr} {l : List Int} (h : RdI w S A l) (hsz : w.heap.size ≤ w'.heap.size) (hS : ∀ b, S b → b < w.heap.size → S' b ∧ w'.heap[b]? = w.heap[b]?) : RdI w' S' A l := fun h0 => by
  obtain ⟨b, off, hA, hb, hs, hc⟩ := h h0
  obtain ⟨s1, s2⟩ := hS b hs hb
  exact ⟨b, off, hA, by omega, s1, fun j hj => (World.cell?_of_block (a := ⟨b, _, none⟩) s2).trans (hc j hj)⟩
theorem RdLs.frame {w w' : World} {S S' : Nat → Prop} {A : Option Addr} {n : Nat} {Q : Nat → List Int} (h : RdLs w S A n Q) (hsz : w.heap.size ≤ w'.heap.size) (hS : ∀ b, S b → b < w.heap.size → S' b ∧ w'.heap[b]? = w.heap[b]?) : RdLs w' S' A n Q := fun h0 => by
  obtain ⟨b, off, hA, hb, hs, hc⟩ := h h0
  obtain ⟨s1, s2⟩ := hS b hs hb
  refine ⟨b, off, hA, by omega, s1, fun i hi => ?_⟩
  obtain ⟨qA, qc, h1, h2, h3, h4, h5⟩ := hc i hi
  exact ⟨qA, qc, (World.cell?_of_block (a := ⟨b, _, none⟩) s2).trans h1, h2, h3, h4, h5.frame hsz hS⟩
theorem RdI.below {w w' : World} {S : Nat → Prop} {A : Option Addr} {l : List Int} (h : RdI w S A l) (hb : Below w.heap.size w w') : RdI w' S A l := h.frame hb.size (fun b hs hlt => ⟨hs, hb.block b hlt⟩)
theorem RdLs.below {w w' : World} {S : Nat → Prop} {A : Option Addr} {n : Nat} {Q : Nat → List Int} (h : RdLs w S A n Q) (hb : Below w.heap.size w w') : RdLs w' S A n Q := h.frame hb.size (fun b hs hlt => ⟨hs, hb.block b hlt⟩)
theorem RdI.rd {w : World} {S : Nat → Prop} {A : Option Addr} {l : List Int} (h : RdI w S A l) : Rd w 1 (tmC (lst l)) A l.length := fun h0 => by
  obtain ⟨b, off, hA, hb, _, hc⟩ := h h0
  refine ⟨b, off, hA, hb, fun k hk j u hu => ?_⟩
  match j, hu with
  | 0, hu =>
    simp [tmC] at hu
    subst hu
    rw [Nat.mul_one, Nat.add_zero]
    exact hc k hk
/-- the tasks of the first i lines -/
def catTo (Q : Nat → List Int) : Nat → List Int
  | 0 => []
  | i + 1 => catTo Q i ++ Q i
theorem catTo_mono (Q : Nat → List Int) {i k : Nat} (h : i ≤ k) : ∃ m, catTo Q k = catTo Q i ++ m := by
  induction k with
  | zero => obtain rfl : i = 0 := by omega
            exact ⟨[], by simp⟩
  | succ k ih =>
    by_cases e : i = k + 1
    · subst e; exact ⟨[], by simp⟩
    · obtain ⟨m, hm⟩ := ih (by omega)
      exact ⟨m ++ Q k, by rw [catTo, hm, List.append_assoc]⟩
theorem grow_run (w : World) (ty : TypeId) (n : Nat) (h0 : 0 < n) (hn : n ≤ 1000000) : ∃ cap w', (Builtin.append_ #[26, 3] ty #[.slice none 0 0, .int .i64 n]).run Tryz.prog w = .ok (.slice (some ⟨w.heap.size, 0, none⟩) n cap) w' ∧ n ≤ cap ∧
    w'.ownsRow w.heap.size 3 1 (.slice (some ⟨w.heap.size, 0, none⟩) 0 cap) 0 [] ∧ Below w.heap.size w w' := by
  obtain ⟨i0, hi, hz0, hz1, hz2⟩ := info_parts infoI
  have hle := grownCap_ge w n 0 3
  have hr := Lib.run_append_nil_zeros (P := Tryz.prog) w 26 3 ty 3 i0 (.int .i64 0) .i64 .i64 Tryz.underlying26 Tryz.underlying3 hi hz0 n h0 (by omega) (by omega) (by rw [hz2]; omega)
  refine ⟨_, _, hr, hle, World.ownsRow_made w.drew _ _ (Nat.le_refl _) ?_ ?_, ((Below.refl _ _).drew).alloc (Nat.le_refl _) _⟩
  · exact grownCap_le_maxLen w n 0 3 (by unfold maxLen; omega)
  · rw [Array.size_append, size_zeroCells, size_zeroCells, show (Value.int IntKind.i64 0).cells.size = 1 from rfl]; omega
def GrowPost (w : World) (e : Ending) (w' : World) : Prop := ∃ v, e = .returned v ∧ w'.ownsRow w.heap.size 3 1 v 0 [] ∧ Below w.heap.size w w'
set_option maxHeartbeats 800000 in
theorem growI_any (n : Nat) (w : World) (hn : n ≤ 1000000) : Calls Tryz.prog 100 #[.slice none 0 0, .int .i64 n] w (GrowPost w) := by
  by_cases h0 : 0 < n
  · have e0 : decide ((n : Int) < 0) = false := by simp
    have e1 : decide ((0 : Int) < (n : Int)) = true := by simp; omega
    obtain ⟨cap, w1, hr, hcap, hown, hb⟩ := grow_run w 26 n h0 hn
    have HO := Lib.hid hown
    have HB := Lib.hid hb
    have HR := Lib.hid hr
    clear hown hb hr
    go_enter Tryz.func100, Tryz.ntmps100
    go_wp2_with (at_builtin; refine Lib.wpList_append_run _ rfl _ _ _ _ rfl _ _ rfl rfl _ _ HR.out ?_)
    go_ret
    exact ⟨_, rfl, HO.out, HB.out⟩
  · obtain rfl : n = 0 := by omega
    go_enter Tryz.func100, Tryz.ntmps100
    go_wp2_with fail
    go_ret
    exact ⟨_, rfl, World.ownsRow_nil _ _ _ _, Below.refl _ _⟩
def CatPost (l : List Int) (w : World) (e : Ending) (w' : World) : Prop := ∃ v, e = .returned v ∧ OwnI w' w.heap.size v l ∧ Below w.heap.size w w'
theorem catTo_le (Q : Nat → List Int) {i k : Nat} (h : i ≤ k) : (catTo Q i).length ≤ (catTo Q k).length := by
  obtain ⟨m, hm⟩ := catTo_mono Q h
  rw [hm, List.length_append]; omega
theorem encI_append (a b : List Int) : encI (a ++ b) = encI a ++ encI b := by simp [encI]
theorem encI_one (l : List Int) : ∀ u ∈ encI l, u.oneCell' = true := by
  intro u hu
  simp [encI] at hu
  obtain ⟨a, _, rfl⟩ := hu
  rfl
theorem append_none (w : World) (ty : TypeId) (base : Nat) (v : Value) (n : Nat) (xs : List Value) (hown : w.ownsRow base 3 1 v n xs) (qc : Nat) : (Builtin.append_ #[26, 26] ty #[v, .slice none 0 qc]).run Tryz.prog w = .ok v w := by
  obtain ⟨i0, hi, hz0, hz1, hz2⟩ := info_parts infoI
  rcases hown.2 with ⟨rfl, rfl⟩ | ⟨g, cap, cur, rfl, _, _, hnc, _⟩
  · simp [Builtin.append_, run_underlying Tryz.underlying26, sizeOf, typeInfo, hi, Builtin.lenOf, Builtin.firstCells]
  · simp [Builtin.append_, run_underlying Tryz.underlying26, sizeOf, typeInfo, hi, Builtin.lenOf, Builtin.firstCells, hnc, storeCells]
set_option maxRecDepth 100000 in
set_option maxHeartbeats 2000000 in
theorem concat_any (A : Option Addr) (n c : Nat) (Q : Nat → List Int) (S : Nat → Prop) (w : World) (hn : n ≤ c) (hc : c ≤ 9223372036854775807) (hR : RdLs w S A n Q) (hl : (catTo Q n).length ≤ 1000000) :
    Calls Tryz.prog 69 #[.slice A n c] w (CatPost (catTo Q n) w) := by
  obtain ⟨i0, hi, hz0, hz1, hz2⟩ := info_parts infoI
  have HR := Lib.hid hR
  have HL := Lib.hid hl
  clear hR hl
  go_enter Tryz.func69, Tryz.ntmps69
  go_wp2_with fail
  go_loop [3, 5, 11] (fun t _ x => ∃ i : Nat, i ≤ n ∧ x = .int .i64 i ∧ t = .int .i64 (catTo Q i).length) (fun _ _ x => n - (intOf x).toNat)
  case atStart => exact ⟨0, Nat.zero_le _, rfl, rfl⟩
  case round =>
    obtain ⟨i, hin, rfl, rfl⟩ := hrel
    by_cases hlt : i < n
    · obtain ⟨b, off, rfl, hb, hSb, hcell⟩ := HR.out (by omega)
      obtain ⟨qA, qc, c0, h2, h3, h4, h5⟩ := hcell i hlt
      have hcl : (catTo Q (i + 1)).length = (catTo Q i).length + (Q i).length := by rw [catTo, List.length_append]
      have hle := catTo_le Q (show i + 1 ≤ n by omega)
      have hml := HL.out
      have e1 : decide (((catTo Q i).length : Int) + ((Q i).length : Int) < 0) = false := by simp; omega
      have HCL := Lib.hid hcl
      have hs1 : (catTo Q i).length ≤ 1000000 := by omega
      have hs2 : (Q i).length ≤ 1000000 := by omega
      clear hcell h5 h4 hcl hle hml
      go_wp2_with fail
      go_round
      case rel => exact ⟨i + 1, by omega, by go_num, by rw [HCL.out]; go_num⟩
      case measure => simp [intOf]; omega
    · obtain rfl : n = i := by omega
      have hml := HL.out
      go_wp2_with fail
      refine (growI_any _ _ HL.out).mono ?_
      rintro e w1 ⟨v1, rfl, hown1, hb1⟩
      have HO1 := Lib.hid hown1
      have HB1 := Lib.hid hb1
      clear hown1 hb1
      go_wp2_with fail
      go_loopw [6, 8, 27] (fun o _ x wr => ∃ (i : Nat) (v : Value), i ≤ n ∧ x = .int .i64 i ∧ v = o ∧ OwnI wr w.heap.size v (catTo Q i) ∧ Below w.heap.size w wr) (fun _ _ x _ => n - (intOf x).toNat)
      case atStart => exact ⟨0, _, Nat.zero_le _, rfl, rfl, HO1.out, HB1.out⟩
      case round =>
        obtain ⟨i, v, hin, rfl, rfl, hO, hB⟩ := hrel
        have HO := Lib.hid hO
        have HB := Lib.hid hB
        have hBs := hB.size
        obtain ⟨Ao, co, rfl, hnco, hcmo, _⟩ := own_any hO
        by_cases hlt : i < n
        · obtain ⟨b, off, rfl, hb, hSb, hcell⟩ := HR.out (by omega)
          obtain ⟨qA, qc, h1, h2, h3, h4, h5⟩ := hcell i hlt
          have c0 : wr.cell? ⟨b, off + i, none⟩ = some (.slice qA (Q i).length qc) := (hB.cell (p := ⟨b, _, none⟩) hb).trans h1
          have hcl : (catTo Q (i + 1)).length = (catTo Q i).length + (Q i).length := by rw [catTo, List.length_append]
          have hle := catTo_le Q (show i + 1 ≤ n by omega)
          have HQ := Lib.hid ((h5.below hB).rd)
          have H4 := Lib.hid h4
          have HLC := Lib.hid (show (catTo Q i).length + (Q i).length ≤ 1000000 by omega)
          clear hO hB hcell h1 h5 h4 hcl hle
          cases qA with
          | none =>
            have hz : (Q i).length = 0 := H4.out rfl
            have HAN := Lib.hid (append_none wr 26 w.heap.size _ _ _ HO.out qc)
            go_wp2_with (at_builtin; refine Lib.wpList_append_run _ rfl _ _ _ _ rfl _ _ rfl rfl _ _ HAN.out ?_)
            refine ⟨⟨i + 1, _, by omega, by go_num, rfl, ?_, HB.out⟩, by simp [intOf]; omega⟩
            rw [catTo, List.eq_nil_of_length_eq_zero hz, List.append_nil]
            exact HO.out
          | some qa =>
            have HQ2 := Lib.hid (show ∀ j u, (encI (Q i))[j]? = some u → wr.cell? (qa.add j) = some u from fun j u hu => by
              have hj : j < (Q i).length := by
                rcases Nat.lt_or_ge j (Q i).length with hh | hh
                · exact hh
                · rw [List.getElem?_eq_none (by simp [encI]; exact hh)] at hu; cases hu
              obtain ⟨b1, o1, hA, _, hc1⟩ := HQ.out (by omega)
              injection hA with hA
              subst hA
              rw [Go.WideShapes.add_plain]
              have := hc1 j hj 0 _ rfl
              simp [encI, hj] at hu
              simp [lst, hj] at this
              rw [this, hu])
            go_wp2_with (at_builtin; go_loud (refine wpList_append_own_at _ rfl _ _ 26 rfl w.heap.size 3 i0 _ 1 8 Tryz.underlying26 hi hz0 hz1 hz2 rfl (by omega) (.slice Ao (catTo Q i).length co) (catTo Q i).length (encI (catTo Q i)) rfl HO.out qa (Q i).length qc (encI (Q i)) rfl (by simp [encI]) HQ2.out (encI_one _) (by have := HLC.out; unfold maxLen; omega) (by have := HLC.out; omega) hBs ?_; intro v2 w2 hown2 hgrow2 _ _; have HO2 := Lib.hid hown2; have HG2 := Lib.hid hgrow2; clear hown2 hgrow2))
            refine ⟨⟨i + 1, v2, by omega, by go_num, rfl, ?_, ?_⟩, by simp [intOf]; omega⟩
            · unfold OwnI
              rw [catTo, List.length_append, encI_append]
              exact HO2.out
            · exact below_grown HB.out hBs HG2.out (fun k hk => (HO.out.blk k hk).1)
        · obtain rfl : n = i := by omega
          clear hO hB
          go_wp2_with fail
          go_ret
          exact ⟨_, rfl, HO.out, HB.out⟩
end Go.Proofs.YtjjfglbcikaicaaGreat
namespace Go.Proofs.YtjjfglbcikaicaaGreat
open Go.RowKit
set_option linter.unusedVariables false
set_option linter.unusedSimpArgs false
/-- all but x wait, or do not, as they did; who is new has a new reference -/
structure Oth (x : Int) (N N' : NdS) : Prop where
  id : N'.id = N.id
  sp : N.spawned ≤ N'.spawned
  oth : ∀ b, b ∈ N'.acts → b.ref ≠ x → (∃ a, a ∈ N.acts ∧ a.ref = b.ref ∧ a.waits = b.waits) ∨ (N.id * 1000 + (N.spawned : Int) < b.ref ∧ b.ref ≤ N.id * 1000 + (N'.spawned : Int))
theorem Oth.refl (x : Int) (N : NdS) : Oth x N N := ⟨rfl, Nat.le_refl _, fun b hb _ => .inl ⟨b, hb, rfl, rfl⟩⟩
theorem Oth.trans {x : Int} {N N1 N2 : NdS} (h : Oth x N N1) (k : Oth x N1 N2) : Oth x N N2 := by
  refine ⟨k.id.trans h.id, Nat.le_trans h.sp k.sp, fun b hb hx => ?_⟩
  have h1 := h.id
  have h2 := h.sp
  have h3 := k.sp
  rcases k.oth b hb hx with ⟨a, ha, e1, e2⟩ | hn
  · rcases h.oth a ha (by rw [e1]; exact hx) with ⟨c, hc, e3, e4⟩ | hn
    · exact .inl ⟨c, hc, e3.trans e1, e4.trans e2⟩
    · refine .inr ?_
      rw [← e1]
      omega
  · refine .inr ?_
    rw [h1] at hn
    omega
/-- nothing but the actors matters -/
theorem Oth.acts {x : Int} {N N' : NdS} (h1 : N'.id = N.id) (h2 : N'.spawned = N.spawned) (h3 : N'.acts = N.acts) : Oth x N N' := ⟨h1, Nat.le_of_eq h2.symm, fun b hb _ => .inl ⟨b, h3 ▸ hb, rfl, rfl⟩⟩
theorem Oth.setA {x : Int} {N : NdS} {a a' : ActS} (ha : a ∈ N.acts) (hr : a'.ref = a.ref) (hw : a.ref ≠ x → a'.waits = a.waits) : Oth x N (N.setA a') := by
  refine ⟨rfl, Nat.le_refl _, fun b hb hx => ?_⟩
  rcases mem_setA.1 hb with ⟨c, hc, e, rfl⟩ | ⟨hb, _⟩
  · exact .inl ⟨a, ha, hr.symm, (hw (by rw [← hr]; exact hx)).symm⟩
  · exact .inl ⟨b, hb, rfl, rfl⟩
theorem Oth.delA {x : Int} {N : NdS} (r : Int) (l : List Li.LR) : Oth x N { N.delA r with rows := l } := ⟨rfl, Nat.le_refl _, fun b hb _ => .inl ⟨b, (List.mem_filter.1 hb).1, rfl, rfl⟩⟩
section
variable {x : Int} {rem : NdS → Int → ByteArray → NdS}
theorem deliverW_oth (hr : ∀ M r t, Oth x M (rem M r t)) (N : NdS) (y : LT) : Oth x N (deliverW rem N y) := by
  unfold deliverW
  split
  · split
    · exact Oth.refl x N
    · rename_i a ha
      obtain ⟨hm, _⟩ := find_some ha
      refine Oth.setA hm ?_ (fun _ => ?_)
      · unfold putBox; split <;> rfl
      · unfold putBox; split <;> rfl
  · split
    · exact Oth.acts rfl rfl rfl
    · split
      · exact Oth.acts rfl rfl rfl
      · split
        · split
          · exact hr _ _ _
          · exact Oth.refl x N
        · exact Oth.refl x N
theorem send1W_oth (hr : ∀ M r t, Oth x M (rem M r t)) (N : NdS) (y : LT) : Oth x N (send1W rem N y) := by
  unfold send1W
  split
  · exact deliverW_oth hr N y
  · split
    · exact Oth.acts rfl rfl rfl
    · exact Oth.refl x N
theorem replyW_oth (hr : ∀ M r t, Oth x M (rem M r t)) (N : NdS) (y : LT) : Oth x N (replyW rem N y) := by
  unfold replyW
  split
  · exact Oth.refl x N
  · exact send1W_oth hr N _
theorem sendW_oth (hr : ∀ M r t, Oth x M (rem M r t)) (N : NdS) (y : LT) : Oth x N (sendW rem N y) := by
  unfold sendW
  split
  · exact deliverW_oth hr N y
  · split
    · exact Oth.acts rfl rfl rfl
    · exact replyW_oth hr N y
theorem foldl_oth (hr : ∀ M r t, Oth x M (rem M r t)) : ∀ (l : List LT) (N : NdS), Oth x N (l.foldl (sendW rem) N)
  | [], N => Oth.refl x N
  | y :: l, N => (sendW_oth hr N y).trans (foldl_oth hr l _)
end
theorem remN_oth (x : Int) : ∀ (k : Nat) (N : NdS) (ref : Int) (failed : Bool) (text : ByteArray), Oth x N (remN k N ref failed text)
  | 0, N, _, _, _ => Oth.refl x N
  | k + 1, N, ref, failed, text => (Oth.delA ref (goneL N.rows ref)).trans (foldl_oth (fun M r t => remN_oth x k M r true t) _ _)
theorem sendN_oth (x : Int) (N : NdS) (y : LT) : Oth x N (sendN N y) := sendW_oth (fun M r t => remN_oth x 60 M r true t) N y
theorem spawnN_oth (x : Int) (N : NdS) (nm : ByteArray) : Oth x N (spawnN N nm).1 := by
  unfold spawnN
  dsimp only
  split
  · exact Oth.refl x N
  · split
    · exact Oth.refl x N
    · split
      · exact Oth.refl x N
      · refine ⟨rfl, Nat.le_succ _, fun b hb hx => ?_⟩
        rcases mem_insA.1 hb with rfl | hb
        · exact .inr ⟨by show _ < N.id * 1000 + (N.spawned : Int) + 1; omega, by show N.id * 1000 + (N.spawned : Int) + 1 ≤ N.id * 1000 + ((N.spawned + 1 : Nat) : Int); omega⟩
        · exact .inl ⟨b, hb, rfl, rfl⟩
theorem armN_oth {N2 : NdS} {r : Int} {a : ActS} (o : OutS) (ha : a ∈ N2.acts) (hr : a.ref = r) : Oth r N2 (armN N2 r a o).1 := by
  unfold armN
  split
  · exact Oth.acts rfl rfl rfl
  split
  · exact sendN_oth r _ _
  split
  · exact sendN_oth r _ _
  split
  · exact Oth.trans (N1 := { N2 with rows := linkL N2.rows r o.num }) (Oth.acts rfl rfl rfl) (sendN_oth r _ _)
  split
  · dsimp only
    split
    · exact spawnN_oth r _ _
    · rename_i b hb
      refine (spawnN_oth r _ _).trans (Oth.setA (find_some hb).1 rfl (fun h => absurd (find_some hb).2 h))
  split
  · exact Oth.setA ha rfl (fun h => absurd hr h)
  split
  · exact remN_oth r _ _ _ _ _
  split
  · exact remN_oth r _ _ _ _ _
  · exact Oth.refl r N2
theorem goA_ref' (a : ActS) : (goA a).1.ref = a.ref := by
  unfold goA
  split
  · unfold wakeA
    split
    · rfl
    · split <;> rfl
  · rfl
theorem stepN_oth (N : NdS) (r : Int) : Oth r N (stepN N r).1 := by
  rcases ha : N.find r with _ | a
  · unfold stepN
    rw [ha]
    exact Oth.refl r N
  · obtain ⟨hm, hr⟩ := find_some ha
    have h1 : Oth r N (N.setA (goA a).1) := Oth.setA hm (goA_ref' a) (fun h => absurd hr h)
    rcases hg : (goA a).2 with _ | _
    · rw [stepN_no ha hg]
      exact h1
    · rw [stepN_go ha hg]
      have hm1 : (goA a).1 ∈ (N.setA (goA a).1).acts := mem_setA.2 (.inl ⟨a, hm, (goA_ref' a).symm, rfl⟩)
      have hm2 : ranA N a ∈ ((N.setA (goA a).1).setA (ranA N a)).acts := mem_setA.2 (.inl ⟨_, hm1, rfl, rfl⟩)
      have h2 : Oth r (N.setA (goA a).1) ((N.setA (goA a).1).setA (ranA N a)) := Oth.setA hm1 rfl (fun h => absurd ((goA_ref' a).trans hr) h)
      exact (h1.trans h2).trans (armN_oth _ hm2 ((goA_ref' a).trans hr))
theorem loopN_oth (r : Int) : ∀ (k : Nat) (N : NdS), Oth r N (loopN k N r)
  | 0, N => Oth.refl r N
  | k + 1, N => by
    unfold loopN
    split
    · split
      · exact (stepN_oth N r).trans (loopN_oth r k _)
      · exact stepN_oth N r
    · exact Oth.refl r N
theorem turnN_oth {N : NdS} (h : readyN N ≠ []) : Oth (nextI (readyN N) N.last) N (turnN N).1 ∧ (turnN N).2.1 = nextI (readyN N) N.last ∧ (turnN N).1.last = nextI (readyN N) N.last := by
  unfold turnN
  rw [if_neg h]
  refine ⟨Oth.trans (N1 := { N with last := nextI (readyN N) N.last }) (Oth.acts rfl rfl rfl) (loopN_oth _ _ _), rfl, ?_⟩
  exact (loopN_keep _ { N with last := nextI (readyN N) N.last } _).last
/-- a comes before b, seen from r on and round -/
def cyLt (r a b : Int) : Prop := (r < a ∧ (b < r ∨ a < b)) ∨ (a < r ∧ b < r ∧ a < b)
theorem cyLt.trans {r a b c : Int} (h : cyLt r a b) (k : cyLt r b c) : cyLt r a c := by unfold cyLt at *; omega
theorem cyLt.irr {r a : Int} (h : cyLt r a a) : False := by unfold cyLt at h; omega
theorem next_cy {l : List Int} {last r : Int} (hs : l.Pairwise (· < ·)) (hr : r ∈ l) (hl : last ≠ r) (hx : nextI l last ≠ r) : cyLt r last (nextI l last) := by
  have key : ∀ l : List Int, l.Pairwise (· < ·) → r ∈ l → last < r → ∃ n, l.find? (fun n => decide (last < n)) = some n ∧ n ≤ r ∧ last < n := fun l => by
    induction l with
    | nil => intro _ h; cases h
    | cons a l ih =>
      intro hs hr hlr
      by_cases ha : last < a
      · refine ⟨a, List.find?_cons_of_pos (by simpa using ha), ?_, ha⟩
        rcases List.mem_cons.1 hr with e | hm
        · omega
        · have := (List.pairwise_cons.1 hs).1 r hm
          omega
      · rw [List.find?_cons_of_neg (by simpa using ha)]
        refine ih (List.pairwise_cons.1 hs).2 ?_ hlr
        rcases List.mem_cons.1 hr with e | hm
        · omega
        · exact hm
  unfold nextI at hx ⊢
  rcases Int.lt_or_lt_of_ne hl with h | h
  · obtain ⟨n, e, h1, h2⟩ := key l hs hr h
    rw [e] at hx ⊢
    dsimp only at hx ⊢
    unfold cyLt
    omega
  · rcases hf : l.find? (fun n => decide (last < n)) with _ | n
    · rw [hf] at hx
      dsimp only at hx ⊢
      rcases l with _ | ⟨a, l⟩
      · cases hr
      · have ha : a ≤ r := by
          rcases List.mem_cons.1 hr with e | hm
          · omega
          · have := (List.pairwise_cons.1 hs).1 r hm
            omega
        have e : List.headD (a :: l) 0 = a := rfl
        rw [e] at hx ⊢
        unfold cyLt
        omega
    · have h2 : last < n := by simpa using List.find?_some hf
      dsimp only
      unfold cyLt
      omega
/-- who goes on for sure -/
def goesN (N : NdS) (r : Int) : Prop := ∃ a, a ∈ N.acts ∧ a.ref = r ∧ a.waits = false
/-- where the law NodeFair stands: had, those that had a turn -/
def FairI (N : NdS) (B : Int) (had : List Int) : Prop := ∀ r, goesN N r → r ≤ B → r ∉ had → had.Pairwise (cyLt r) ∧ ∀ h, had.getLast? = some h → N.last = h
theorem FairI.nil (N : NdS) (B : Int) : FairI N B [] := fun r _ _ _ => ⟨List.Pairwise.nil, fun h e => by cases e⟩
theorem goes_ready {N : NdS} {r : Int} (h : goesN N r) : r ∈ readyN N := by
  obtain ⟨a, ha, hr, hw⟩ := h
  unfold readyN
  refine List.mem_map.2 ⟨a, List.mem_filter.2 ⟨ha, ?_⟩, hr⟩
  unfold canA
  rw [hw]
  rfl
theorem ready_srt {N : NdS} (hs : N.acts.Pairwise fun a b => a.ref < b.ref) : (readyN N).Pairwise (· < ·) := by
  unfold readyN
  exact List.pairwise_map.2 (hs.filter _)
theorem fair_step {N : NdS} {B : Int} {had : List Int} (hs : N.acts.Pairwise fun a b => a.ref < b.ref) (hB : B ≤ N.id * 1000 + (N.spawned : Int)) (hI : FairI N B had) (h0 : readyN N ≠ []) :
    FairI (turnN N).1 B (had ++ [(turnN N).2.1]) ∧ ((turnN N).2.1 ∈ had → ∀ r, goesN (turnN N).1 r → r ≤ B → r ∈ had) := by
  obtain ⟨ho, hx, hl⟩ := turnN_oth h0
  rw [hx]
  generalize hxe : nextI (readyN N) N.last = x at *
  have back : ∀ r, goesN (turnN N).1 r → r ≤ B → r ≠ x → goesN N r := fun r hg hr hne => by
    obtain ⟨b, hb, e, hw⟩ := hg
    rcases ho.oth b hb (by rw [e]; exact hne) with ⟨a, ha, e1, e2⟩ | hn
    · exact ⟨a, ha, e1.trans e, e2.trans hw⟩
    · rw [e] at hn
      omega
  have main : ∀ r, goesN (turnN N).1 r → r ≤ B → r ≠ x → r ∉ had → ∀ a, a ∈ had → cyLt r a x := fun r hg hr hne hnh a ha => by
    have hgN := back r hg hr hne
    obtain ⟨h1, h2⟩ := hI r hgN hr hnh
    have hne2 : had ≠ [] := fun e => by rw [e] at ha; cases ha
    have hla := h2 _ (List.getLast?_eq_some_getLast hne2)
    have hlm : had.getLast hne2 ∈ had := List.getLast_mem hne2
    have hlr : N.last ≠ r := fun e => hnh (by rw [← e, hla]; exact hlm)
    have hc := next_cy (ready_srt hs) (goes_ready hgN) hlr (by rw [hxe]; exact fun e => hne e.symm)
    rw [hxe, hla] at hc
    have hdl := List.dropLast_concat_getLast hne2
    rw [← hdl] at ha h1
    rcases List.mem_append.1 ha with ha | ha
    · exact ((List.pairwise_append.1 h1).2.2 a ha _ (List.mem_singleton.2 rfl)).trans hc
    · rw [List.mem_singleton] at ha
      rw [ha]
      exact hc
  refine ⟨fun r hg hr hnh => ?_, fun hxh r hg hr => ?_⟩
  · have hne : r ≠ x := fun e => hnh (List.mem_append.2 (.inr (List.mem_singleton.2 e)))
    have hnh' : r ∉ had := fun e => hnh (List.mem_append.2 (.inl e))
    refine ⟨List.pairwise_append.2 ⟨(hI r (back r hg hr hne) hr hnh').1, List.pairwise_singleton _ _, fun a ha b hb => ?_⟩, fun h e => ?_⟩
    · rw [List.mem_singleton] at hb
      rw [hb]
      exact main r hg hr hne hnh' a ha
    · rw [List.getLast?_append, List.getLast?_singleton] at e
      injection e with e
      rw [← e]
      exact hl
  · by_cases hr2 : r ∈ had
    · exact hr2
    · exfalso
      have hne : r ≠ x := fun e => hr2 (by rw [e]; exact hxh)
      exact (main r hg hr hne hr2 x hxh).irr
end Go.Proofs.YtjjfglbcikaicaaGreat
namespace Go.Proofs.YtjjfglbcikaicaaGreat
open Go.RowKit
set_option linter.unusedVariables false
set_option linter.unusedSimpArgs false
def RefB (N : NdS) : Prop := ∀ a, a ∈ N.acts → a.ref ≤ N.id * 1000 + (N.spawned : Int)
theorem Oth.refB {x : Int} {N N' : NdS} (h : Oth x N N') (hB : RefB N) (hx : x ≤ N.id * 1000 + (N.spawned : Int)) : RefB N' := fun b hb => by
  have h1 := h.id
  have h2 := h.sp
  by_cases e : b.ref = x
  · rw [h1]; omega
  · rcases h.oth b hb e with ⟨a, ha, e1, _⟩ | hn
    · have := hB a ha
      rw [h1]; omega
    · rw [h1]; omega
theorem putN_oth (x : Int) (N : NdS) (y : LT) : Oth x N (putN N y).1 := by
  unfold putN
  split
  · exact Oth.refl x N
  · split
    · exact replyW_oth (fun M r t => remN_oth x 60 M r true t) N y
    · split
      · exact Oth.refl x N
      · exact deliverW_oth (fun M r t => remN_oth x 60 M r true t) N y
theorem turnN_refB {N : NdS} (h : RefB N) : RefB (turnN N).1 := by
  by_cases h0 : readyN N = []
  · unfold turnN
    rw [if_pos h0]
    exact h
  · refine (turnN_oth h0).1.refB h ?_
    have hm : nextI (readyN N) N.last ∈ readyN N := by
      unfold nextI
      rcases hf : (readyN N).find? (fun n => decide (N.last < n)) with _ | x
      · rcases hl : readyN N with _ | ⟨a, l⟩
        · exact absurd hl h0
        · simp
      · exact List.mem_of_find?_eq_some hf
    unfold readyN at hm
    obtain ⟨a, ha, e⟩ := List.mem_map.1 hm
    have := h a (List.mem_filter.1 ha).1
    rw [e] at this
    exact this
theorem tickN_refB {N : NdS} (h : RefB N) : RefB (tickN N) := fun b hb => by
  obtain ⟨a, ha, rfl⟩ := List.mem_map.1 hb
  have := h a ha
  split <;> exact this
theorem doN_refB {N : NdS} (h : RefB N) (d : Dd) : RefB (doN N d) := by
  unfold doN
  split
  · exact (spawnN_oth (N.id * 1000) N _).refB h (by omega)
  split
  · split
    · exact h
    · exact (putN_oth (N.id * 1000) N _).refB h (by omega)
  split
  · exact turnN_refB h
  split
  · exact tickN_refB h
  · exact h
theorem begunN_refB (L : List (List Stp)) (x : Int) (l : List Dd) : RefB (begunN L x l) := by
  unfold begunN
  have key : ∀ (l : List Dd) (N : NdS), RefB N → RefB (l.foldl doN N) := fun l => by
    induction l with
    | nil => intro N h; exact h
    | cons d l ih => intro N h; exact ih _ (doN_refB h d)
  exact key _ _ (fun a ha => by cases ha)
/-- who is awake, as Knows says it -/
def awakeA (a : ActS) : Bool := canA a || decide (0 < a.box.length) || (a.waits && decide (0 ≤ a.ticks))
end Go.Proofs.YtjjfglbcikaicaaGreat
namespace Go.Proofs.YtjjfglbcikaicaaGreat
open Go.RowKit Go.Maps
set_option linter.unusedVariables false
set_option linter.unusedSimpArgs false
structure KnS where
  ref : Int
  awake : Bool
  refs : List Int
def knC (K : Nat → KnS) (V : Nat → Value) (i : Nat) : List Value := [.int .i64 (K i).ref, .bool (K i).awake, .bool false, V i]
/-- a row of what is known, made by the call -/
structure KnRow (w : World) (base : Nat) (v : Value) (n : Nat) (K : Nat → KnS) (V : Nat → Value) : Prop where
  row : w.ownsRow base 89 4 v n (flatC (knC K V) n)
  each : ∀ i, i < n → OwnI w base (V i) (K i).refs
  outer : ∀ i, i < n → ∀ k, (V i).ownBlock = some k → v.ownBlock ≠ some k
theorem KnRow.nil (w : World) (base : Nat) : KnRow w base (.slice none 0 0) 0 (fun _ => ⟨0, false, []⟩) (fun _ => .slice none 0 0) := ⟨World.ownsRow_nil _ _ _ _, fun i hi => by omega, fun i hi => by omega⟩
theorem KnRow.new {w w' : World} {base : Nat} {v : Value} {n : Nat} {K : Nat → KnS} {V : Nat → Value} (h : KnRow w base v n K V) (hf : Fr (fun _ => False) w w') : KnRow w' base v n K V :=
  ⟨hf.row h.row (fun _ _ h => h), fun i hi => hf.row (h.each i hi) (fun _ _ h => h), h.outer⟩
theorem KnRow.mono {w : World} {base base' : Nat} {v : Value} {n : Nat} {K : Nat → KnS} {V : Nat → Value} (h : KnRow w base v n K V) (hb : base' ≤ base) : KnRow w base' v n K V := ⟨own_mono h.row hb, fun i hi => (h.each i hi).mono hb, h.outer⟩
theorem infoKn : (Tryz.prog.info? 89).map (fun i => (i.zero, i.size, i.bytes)) = some (some (.agg #[.int .i64 0, .bool false, .bool false, .slice none 0 0]), 4, 40) := by kernel_rfl
def upK (K : Nat → KnS) (n : Nat) (k : KnS) : Nat → KnS := fun j => if j = n then k else K j
def upV (V : Nat → Value) (n : Nat) (u : Value) : Nat → Value := fun j => if j = n then u else V j
theorem KnRow.snoc {w w' : World} {o : Obj} {base n : Nat} {v v' u : Value} {K : Nat → KnS} {V : Nat → Value} {k : KnS} (h : KnRow w base v n K V) (hg : (w.alloc o).grownBy w' v.ownBlock) (hr : w'.ownsRow base 89 4 v' (n + 1) (flatC (knC K V) n ++ [.int .i64 k.ref, .bool k.awake, .bool false, u])) (hu : OwnI w base u k.refs)
    (hne : ∀ b, u.ownBlock = some b → v.ownBlock ≠ some b) (hat : v'.ownBlock = v.ownBlock ∨ ∃ q, v'.ownBlock = some q ∧ w.heap.size ≤ q) : KnRow w' base v' (n + 1) (upK K n k) (upV V n u) := by
  have hf : Fr (fun b => v.ownBlock = some b) w w' := ((Fr.refl _ w).alloc o).trans' (Fr.of_grown hg (fun b hb => .inl hb))
  have hold : ∀ b, (∃ i, i < n ∧ (V i).ownBlock = some b) ∨ u.ownBlock = some b → v.ownBlock ≠ some b ∧ b < w.heap.size := fun b hb => by
    rcases hb with ⟨i, hi, hb⟩ | hb
    · exact ⟨h.outer i hi b hb, ((h.each i hi).blk b hb).2⟩
    · exact ⟨hne b hb, (hu.blk b hb).2⟩
  have hnew : ∀ b, (∃ i, i < n ∧ (V i).ownBlock = some b) ∨ u.ownBlock = some b → v'.ownBlock ≠ some b := fun b hb e => by
    obtain ⟨h1, h2⟩ := hold b hb
    rcases hat with e2 | ⟨q, e2, hq⟩
    · exact h1 (e2.symm.trans e)
    · rw [e2] at e
      injection e with e
      omega
  refine ⟨?_, fun i hi => ?_, fun i hi b hb => ?_⟩
  · have e : flatC (knC (upK K n k) (upV V n u)) (n + 1) = flatC (knC K V) n ++ [.int .i64 k.ref, .bool k.awake, .bool false, u] := by
      rw [flatC]
      congr 1
      · exact flatC_congr fun j hj => by
          unfold knC upK upV
          rw [if_neg (by omega), if_neg (by omega)]
      · unfold knC upK upV
        rw [if_pos rfl, if_pos rfl]
    rw [e]
    exact hr
  · by_cases e : i = n
    · subst e
      unfold upK upV
      rw [if_pos rfl, if_pos rfl]
      exact hf.row hu (fun b hb => (hold b (.inr hb)).1)
    · unfold upK upV
      rw [if_neg e, if_neg e]
      exact hf.row (h.each i (by omega)) (fun b hb => (hold b (.inl ⟨i, by omega, hb⟩)).1)
  · by_cases e : i = n
    · subst e
      unfold upV at hb
      rw [if_pos rfl] at hb
      exact hnew b (.inr hb)
    · unfold upV at hb
      rw [if_neg e] at hb
      exact hnew b (.inl ⟨i, by omega, hb⟩)
/-- is x known to an actor? -/
def knowB (N : NdS) (a : ActS) (x : Int) : Bool := a.knows x || anyOf (fun i => refsV (nthL a.box i).says x) a.box.length || decide (x ∈ (rowD N.rows a.ref).ws ++ (rowD N.rows a.ref).ls)
structure KnOk (N : NdS) (a : ActS) (k : KnS) : Prop where
  ref : k.ref = a.ref
  awake : k.awake = awakeA a
  srt : k.refs.Pairwise (· < ·)
  mem : ∀ x, Wf x → (x ∈ k.refs ↔ knowB N a x = true ∧ x ≠ 0 ∧ x ≠ a.ref)
  wf : ∀ x, x ∈ k.refs → Wf x
  len : k.refs.length ≤ 1000000000000
def KnowsPost (N : NdS) (w : World) (e : Ending) (w' : World) : Prop :=
  ∃ A c K V, e = .returned (.slice A N.acts.length c) ∧ KnRow w' w.heap.size (.slice A N.acts.length c) N.acts.length K V ∧ (∀ i a, N.acts[i]? = some a → KnOk N a (K i)) ∧ Below w.heap.size w w'
theorem mkRefs' : ∀ w, (Instr.makeMap 108 none).run Tryz.prog w = .ok (.map (some w.heap.size)) (w.alloc (.map #[] 0)) := fun w => by kernel_rfl
theorem Fr.old {w w' : World} (h : Fr (fun k => w.heap.size ≤ k) w w') : Fr (fun _ => False) w w' := ⟨h.os, h.tape, h.output, h.size, fun i hi _ => h.block i hi (by show ¬ w.heap.size ≤ i; omega)⟩
theorem rowD_wf {rows : List Li.LR} (h : RowsOk rows) (ref : Int) : ∀ x, x ∈ (rowD rows ref).ws ++ (rowD rows ref).ls → Wf x := fun x hx => by
  unfold rowD at hx
  rcases hr : rowL rows ref with _ | r
  · rw [hr] at hx
    cases hx
  · rw [hr] at hx
    have hm : r ∈ rows := by
      unfold rowL at hr
      exact List.mem_of_find?_eq_some hr
    have h2 := h.wf r hm
    rcases List.mem_append.1 hx with hx | hx
    · exact h2.2.1 x hx
    · exact h2.2.2 x hx
/-- two rows of numbers, one behind the other -/
theorem rdLs_two {w W : World} {v1 v2 : Value} {l1 l2 : List Int} {t : TypeId} (h1 : NumIn w (fun _ => True) v1 l1) (h2 : NumIn w (fun _ => True) v2 l2) (hW : W = w.alloc (.cells #[v1, v2] t)) : RdLs W (fun _ => True) (some ⟨w.heap.size, 0, none⟩) 2 (fun i => if i = 0 then l1 else l2) := fun _ => by
  have hf : Fr (fun _ => False) w W := by rw [hW]; exact (Fr.refl _ _).alloc _
  have key : ∀ {v : Value} {l : List Int}, NumIn w (fun _ => True) v l → ∃ (qA : Option Addr) (qc : Nat), v = .slice qA l.length qc ∧ l.length ≤ qc ∧ qc ≤ 9223372036854775807 ∧ (qA = none → l.length = 0) ∧ RdI W (fun _ => True) qA l := fun {v l} h => by
    obtain ⟨A, c, e, g1, g2, g3⟩ := h.fr hf (fun _ _ h => h) (fun _ h => h)
    refine ⟨A, c, e, g1, g2, fun hA => ?_, fun h0 => ?_⟩
    · by_cases h0 : 0 < l.length
      · obtain ⟨b, off, e2, _⟩ := g3 h0
        rw [hA] at e2
        cases e2
      · omega
    · obtain ⟨b, off, e2, _, hc⟩ := g3 h0
      exact ⟨b, off, e2, World.block_lt_of_cell? W _ (hc 0 h0), trivial, hc⟩
  refine ⟨w.heap.size, 0, rfl, by rw [hW]; simp, trivial, fun i hi => ?_⟩
  have hi2 : i = 0 ∨ i = 1 := by omega
  rcases hi2 with rfl | rfl
  · obtain ⟨qA, qc, e, g⟩ := key h1
    exact ⟨qA, qc, by rw [hW, e]; simp [go_sem], g⟩
  · obtain ⟨qA, qc, e, g⟩ := key h2
    exact ⟨qA, qc, by rw [hW, e]; simp [go_sem], g⟩
/-- one more reference in a row whose slice lies in a struct -/
theorem kn_keep {wn w6 : World} {o : Obj} {qk base n g cap c9 : Nat} {A9 : Option Addr} {R : List Int} {x : Int} {c0 c1 c2 : Value} (hn : n = R.length) (hC : CellsN wn qk [c0, c1, c2, .slice A9 n c9]) (hO : OwnI wn base (.slice A9 n c9) R) (hq : qk < base) (hown : w6.ownsRow base 3 1 (.slice (some ⟨g, 0, none⟩) (n + 1) cap) (n + 1) (encI R ++ [.int .i64 x])) (hg : (wn.alloc o).grownBy w6 (Value.slice A9 n c9).ownBlock) :
    Fr (fun k => k = qk ∨ (Value.slice A9 n c9).ownBlock = some k) wn (w6.setCell ⟨qk, 3, none⟩ (.slice (some ⟨g, 0, none⟩) (n + 1) cap)) ∧ CellsN (w6.setCell ⟨qk, 3, none⟩ (.slice (some ⟨g, 0, none⟩) (n + 1) cap)) qk [c0, c1, c2, .slice (some ⟨g, 0, none⟩) (n + 1) cap] ∧ OwnI (w6.setCell ⟨qk, 3, none⟩ (.slice (some ⟨g, 0, none⟩) (n + 1) cap)) base (.slice (some ⟨g, 0, none⟩) (n + 1) cap) (R ++ [x]) := by
  have hne : ∀ k, (Value.slice A9 n c9).ownBlock = some k → k ≠ qk := fun k hk e => by have := (hO.blk k hk).1; omega
  have hf : Fr (fun k => (Value.slice A9 n c9).ownBlock = some k) wn w6 := ((Fr.refl _ wn).alloc o).trans' (Fr.of_grown hg (fun k hk => .inl hk))
  have hC6 := hC.fr hf (fun h => hne qk h rfl)
  have h0 := hC6.1 0 _ rfl
  have h1 := hC6.1 1 _ rfl
  have h2 := hC6.1 2 _ rfl
  have h3 := hC6.1 3 _ rfl
  refine ⟨(hf.weak (fun k hk => .inr hk)).set (Or.inl (Or.inl rfl)) _, ⟨fun j u hu => ?_, fun o => ?_, ?_⟩, ?_⟩
  · match j, hu with
    | 0, hu => injection hu with hu; subst hu; exact set_other h0 (by decide)
    | 1, hu => injection hu with hu; subst hu; exact set_other h1 (by decide)
    | 2, hu => injection hu with hu; subst hu; exact set_other h2 (by decide)
    | 3, hu => injection hu with hu; subst hu; exact set_this h3
  · exact set_fz hC6.2.1 o
  · have := hC6.2.2
    simpa using this
  · have hr : OwnI w6 base (.slice (some ⟨g, 0, none⟩) (n + 1) cap) (R ++ [x]) := by
      unfold OwnI encI
      rw [List.length_append, List.map_append]
      rw [hn] at hown ⊢
      exact hown
    exact (Fr.setAt (Fr.refl _ w6) _).row hr (fun k hk e => by have := (hr.blk k hk).1; omega)
set_option maxRecDepth 100000 in
theorem wp_range_N {o : Oper} {ops : Array Oper} {Q : Exit → Act → World → Prop} {rest : List Oper} {a : Act} {w : World} (hg : o.guard = none) (m : Operand) (t e : TypeId) (hop : o.op = Op.range t m) (ht : Tryz.prog.underlying t = some (.map 3 e)) (b n : Nat) (g : Int → Option Value)
    (hm : a.eval m = .map (some b)) (hown : OwnM w b n g)
    (hK : ∀ w', RngM w' b w.heap.size g [] → Fr (fun _ => False) w w' → w'.heap.size = w.heap.size + 1 → w'.rangeLeft b w.heap.size = n → wpList Tryz.prog ops Q rest (a.put o.dst (.pointer (some ⟨w.heap.size, 0, none⟩))) w') :
    wpList Tryz.prog ops Q (o :: rest) a w := by
  obtain ⟨D, h1, hs, h2⟩ := hown
  refine wpList_range_own w hg m t hop 3 e lawI ht anyElem b n D hm h1 fun w' r1 r2 r3 => hK w' ⟨n, D, _, _, r1, h2, List.nodup_nil, (fun x hx => by simp at hx), fun x hx => ?_⟩ (Fr.of_grown r2 (fun k hk => by cases hk)) r3 (r1.left_eq.trans hs)
  rw [(h2 x hx).1]
  simp
set_option maxRecDepth 100000 in
set_option maxHeartbeats 16000000 in
theorem knows_any {w : World} {X M : Nat → Prop} {base T p : Nat} {P : Int → Nat} {N : NdS} (h : NodeAt w X M base T p P N) (hT : T ≤ 100000000000) :
    Calls Tryz.prog 38 #[.pointer (some ⟨p, 0, none⟩)] w (KnowsPost N w) := by
  have HRF := Lib.hid (refs_any h)
  have HN := Lib.hid h
  have h60 := h.ok.len
  clear h
  go_enter Tryz.func38, Tryz.ntmps38
  go_wp2_with fail
  refine HRF.out.mono ?_
  rintro e w1 ⟨A1, c1, rfl, hO1, hb1⟩
  have HF1 := Lib.hid (Fr.of_below (S := fun _ => False) hb1)
  have HO1 := Lib.hid hO1
  clear hO1 hb1 HRF
  go_wp2_with fail
  have hz1 := HF1.out.size
  go_loopw [3, 5, 6, 7, 8, 10, 11, 13, 14, 15, 19] (fun v3 _ _ _ _ _ _ _ _ _ v19 wx => ∃ (i : Nat) (K : Nat → KnS) (V : Nat → Value) (A : Option Addr) (c : Nat), i ≤ N.acts.length ∧ v19 = .int .i64 (i : Int) ∧ v3 = .slice A i c ∧ Hid (KnRow wx w1.heap.size (.slice A i c) i K V) ∧ Hid (∀ j a, j < i → N.acts[j]? = some a → KnOk N a (K j)) ∧ Hid (Fr (fun _ => False) w1 wx)) (fun _ _ _ _ _ _ _ _ _ _ v19 _ => N.acts.length - (intOf v19).toNat)
  case atStart => exact ⟨0, _, _, none, 0, Nat.zero_le _, rfl, rfl, Lib.hid (KnRow.nil _ _), Lib.hid (fun j a hj => by omega), Lib.hid (Fr.refl _ _)⟩
  case round =>
    obtain ⟨wo, hwo⟩ : ∃ wo : World, wo = wr := ⟨_, rfl⟩
    subst hwo
    obtain ⟨i, K, V, A, c, hi, rfl, rfl, HKR, HKO, HFo⟩ := hrel
    by_cases hlt : i < N.acts.length
    · obtain ⟨a, ha⟩ : ∃ a, N.acts[i]? = some a := ⟨_, List.getElem?_eq_getElem hlt⟩
      have ham : a ∈ N.acts := List.mem_of_getElem? ha
      have hfind := find_of_mem HN.out.ok.srt ham
      have HNo := Lib.hid (HN.out.new (HF1.out.trans' HFo.out) (fun _ h => h))
      obtain ⟨pa, b, rb, kb, ib, MA, mb, hpa, c3, hA, hMA, hlk, -⟩ := HNo.out.act hfind
      have hl1 := hlk wo (Fr.refl _ _)
      obtain ⟨bR, offR, rfl, hbR, hcR⟩ := (HO1.out.fr HFo.out (fun _ _ h => h)).rd (by rw [refsN_len]; omega)
      have cR := hcR i (by rw [refsN_len]; exact hlt) 0 _ rfl
      have hre : lst (refsN N) i = a.ref := by
        unfold lst refsN
        rw [List.getD_eq_getElem?_getD, List.getElem?_map, ha]
        rfl
      simp only [Nat.mul_one, Nat.add_zero] at cR
      rw [hre] at cR
      have i1 : (0 : Int) ≤ (i : Int) := by omega
      have i2 : (i : Int) < (N.acts.length : Int) := by omega
      have hplt := HNo.out.p_lt
      have hpl := hA.lt.1
      obtain ⟨nk, hkn, hknT⟩ := hA.kn
      have a6 := hA.a6
      obtain ⟨Ab0, cb0, b20, hb10, hb20, hb30⟩ := hA.a2
      have HBX0 := Lib.hid (show ∀ W, Fr (fun k => wo.heap.size ≤ k) wo W → RdL W (fun k => k < wo.heap.size) Ab0 a.box.length (nthL a.box) from fun W hf => hb30.frame hf.size (fun b hb hlt => ⟨hlt, hf.block b hlt (fun h => by omega)⟩))
      have hkb := hA.lt.2
      have HKN := Lib.hid hkn
      have HKN1 := Lib.hid (hkn.fr (S := fun _ => False) ((Fr.refl _ _).alloc (.map #[] 0)) (fun h => h))
      have HMA := Lib.hid (OwnM.made wo)
      have HAG := Lib.hid hA
      have HAM := Lib.hid ham
      have HAI := Lib.hid ha
      have hmk := mkRefs' wo
      clear hb30 hcR hre hA hkn hMA hlk hpa ham ha
      go_wp2_with (first | (at_range; go_loud (refine wp_range_N rfl _ 108 4 rfl und_refs kb nk _ rfl HKN1.out ?_); intro w2 hrng hfr hsz hlf; have HRNG := Lib.hid hrng; have HFR2 := Lib.hid (((Fr.refl (fun _ => False) wo).alloc _).trans' hfr); have HMA2 := Lib.hid (HMA.out.fr hfr (fun h => h)); have HSZ2 := Lib.hid hsz; have HLF := Lib.hid hlf; clear hrng hfr hsz hlf))
      go_frame
      clear hmk
      have hrr : (wo.alloc (.map #[] 0)).heap.size = wo.heap.size + 1 := by simp
      generalize (wo.alloc (.map #[] 0)).heap.size = rr at *
      have HRR := Lib.hid hrr
      have hr1 : wo.heap.size < rr := by omega
      clear hrr
      go_loopw [8] (fun _ wx => ∃ L n2, Hid (RngM wx kb rr (knG a.knows) L) ∧ n2 ≤ L.length ∧ Hid (L.length + wx.rangeLeft kb rr ≤ nk) ∧ Hid (OwnM wx wo.heap.size n2 (knG fun x => decide (x ∈ L))) ∧ Hid (Fr (fun k => k = wo.heap.size ∨ k = rr) w2 wx)) (fun _ wx => wx.rangeLeft kb rr)
      case atStart => exact ⟨[], 0, HRNG, Nat.zero_le _, Lib.hid (by rw [HLF.out]; simp), Lib.hid (HMA2.out.congr fun x _ => by unfold knG; simp), Lib.hid (Fr.refl _ _)⟩
      case round =>
        obtain ⟨w3, hw3⟩ : ∃ w3 : World, w3 = wr := ⟨_, rfl⟩
        subst hw3
        obtain ⟨L, n2, HR, hn2, HLN, HOL, HF3⟩ := hrel
        have hrk : kb ≠ rr := by omega
        have HF03 := Lib.hid (show Fr (fun _ => False) wo w3 from HFR2.out.trans HF3.out (fun k hk => .inr (by omega)))
        have b23 := HF03.out.cell b20 (fun h => h)
        have hpl3 := Nat.lt_of_lt_of_le hpl HF03.out.size
        go_wp2_with (at_next; (refine wp_next_M rfl _ rfl kb rr (knG a.knows) L rfl HR.out ?_ ?_; rotate_left; (intro x v w5 hwx hgx hxL hR5 hlt5 hf5 hs5 hen; obtain rfl : v = .bool true := (by unfold knG at hgx; split at hgx; (· injection hgx with hgx; exact hgx.symm); (· cases hgx)); have HR5 := Lib.hid hR5; have HF5 := Lib.hid hf5; have HLT5 := Lib.hid hlt5; obtain ⟨w6, hrun, ho6, hg6⟩ := OwnM.store und_refs (HOL.out.fr hf5 (fun e => by omega)) (by have := HLN.out; unfold maxLen; omega) x (.bool true) hwx; rw [knG_put] at ho6; have HO6 := Lib.hid ho6; have HG6 := Lib.hid hg6; clear hwx hgx hR5 hf5 hlt5 hs5 ho6 hg6 hxL); rotate_left; (intro hd; have HD := Lib.hid hd; clear hd)))
        · have hkT := HLN.out
          have hnk := hknT
          clear hrk
          go_wp2_with fail
          go_loopw [10, 47] (fun _ v47 wx => ∃ q n3 : Nat, q ≤ a.box.length ∧ v47 = .int .i64 (q : Int) ∧ n3 ≤ nk + 2000 * q ∧ Hid (Fr (fun k => k = wo.heap.size) w3 wx) ∧ Hid (OwnM wx wo.heap.size n3 (knG fun x => decide (x ∈ L) || anyOf (fun i => refsV (nthL a.box i).says x) q))) (fun _ v47 _ => a.box.length - (intOf v47).toNat)
          case atStart => exact ⟨0, n2, Nat.zero_le _, rfl, by omega, Lib.hid (Fr.refl _ _), Lib.hid (HOL.out.congr fun x _ => by simp [anyOf_nil])⟩
          case round =>
            obtain ⟨w4, hw4⟩ : ∃ w4 : World, w4 = wr := ⟨_, rfl⟩
            subst hw4
            obtain ⟨q, n3, hq, rfl, hn3, HF4, HO4⟩ := hrel
            have HF04 := Lib.hid (show Fr (fun k => wo.heap.size ≤ k) wo w4 from (HF03.out.weak (fun _ h => h.elim)).trans' (HF4.out.weak (fun k hk => by omega)))
            by_cases hlt2 : q < a.box.length
            · obtain ⟨bl, ofl, rfl, hbl, hSl, CL, hCL⟩ := HBX0.out w4 HF04.out (by omega)
              obtain ⟨hyl, hyc⟩ := hCL q hlt2
              have hlw := (HNo.out.ok.act a HAM.out).box.2.2 _ (nthL_mem hlt2)
              obtain ⟨y, hy⟩ : ∃ y, nthL a.box q = y := ⟨_, rfl⟩
              rw [hy] at hyl hlw
              obtain ⟨k2, m2, s2, A2, e2, c2, hcs, hyv⟩ := hyl
              rw [hcs] at hyc
              have y0 := hyc 0 _ rfl
              have y1 := hyc 1 _ rfl
              have y2 := hyc 2 _ rfl
              have y3 := hyc 3 _ rfl
              have y4 := hyc 4 _ rfl
              have y5 := hyc 5 _ rfl
              have y6 := hyc 6 _ rfl
              have y7 := hyc 7 _ rfl
              have y8 := hyc 8 _ rfl
              rw [Nat.add_zero] at y0
              obtain ⟨W5, hW5⟩ : ∃ W5, W5 = w4.alloc (.cells #[.int .i64 y.kind, .int .i64 y.frm, .int .i64 y.to, .int .i64 y.num, .string y.text, .int .i64 k2, .int .i64 m2, .string s2, .slice A2 e2 c2] 43) := ⟨_, rfl⟩
              have hf5 : Fr (fun _ => False) w4 W5 := by rw [hW5]; exact (Fr.refl _ _).alloc _
              have hyl5 : y.isL W5 (fun k => k < wo.heap.size) [.int .i64 y.kind, .int .i64 y.frm, .int .i64 y.to, .int .i64 y.num, .string y.text, .int .i64 k2, .int .i64 m2, .string s2, .slice A2 e2 c2] := ⟨k2, m2, s2, A2, e2, c2, rfl, isV_frame hf5.size (fun b hb hlt => ⟨hb, hf5.block b hlt (fun h => h)⟩) hyv⟩
              have HSY := Lib.hid (says_any y _ _ W5 hyl5 (by have := hlw.2.2.2.2.2; omega))
              have HF5 := Lib.hid hf5
              have HW5 := Lib.hid hW5
              have HLW := Lib.hid hlw.2
              have HYE := Lib.hid hy
              have hz45 := hf5.size
              have hmA : wo.heap.size < w4.heap.size := HO4.out.lt
              have q1 : (0 : Int) ≤ (q : Int) := by omega
              have q2 : (q : Int) < (a.box.length : Int) := by omega
              clear hyc hyv hcs hCL hlw hy hf5 hyl5 hW5
              go_wp2_with fail
              rw [← HW5.out]
              refine HSY.out.mono ?_
              rintro e w5 ⟨cs5, rfl, hv5, hb5⟩
              have HF55 := Lib.hid (HF5.out.trans' (Fr.of_below (S := fun _ => False) hb5))
              have hsm := says_many y
              have HRA := Lib.hid (radd_any y.says cs5 _ wo.heap.size n3 (fun x => decide (x ∈ L) || anyOf (fun i => refsV (nthL a.box i).says x) q) w5 hv5 (says_wf HLW.out) (by have := HLW.out.2.2.2.2; omega) (fun k hk => by have h9 : W5.heap.size ≤ k := hk; omega) (HO4.out.fr HF55.out (fun h => h)) (by have := HLW.out.2.2.2.2; have := (HNo.out.ok.act a HAM.out).box.1; omega))
              have HMN := Lib.hid (show y.says.many ≤ 1003 by have := HLW.out.2.2.2.2; omega)
              clear hv5 hb5 hsm HSY
              go_wp2_with fail
              refine HRA.out.mono ?_
              rintro e w6 ⟨rfl, hf6, n6, hn6, ho6⟩
              have HF6 := Lib.hid hf6
              have HO6 := Lib.hid ho6
              have HN6 := Lib.hid (show n6 ≤ nk + 2000 * (q + 1) by have := HMN.out; omega)
              clear hf6 hn6 ho6 HRA
              go_wp2_with fail
              go_roundw
              case rel =>
                refine ⟨q + 1, n6, by omega, by go_num, HN6.out, Lib.hid ((HF4.out.trans' (HF55.out.weak (fun _ h => h.elim))).trans' HF6.out), Lib.hid (HO6.out.congr fun x _ => ?_)⟩
                unfold knG
                simp only [anyOf_up, HYE.out, Bool.or_assoc]
              case measure => simp [intOf]; omega
            · obtain rfl : q = a.box.length := by omega
              have hLk : ∀ x, Wf x → decide (x ∈ L) = a.knows x := fun x hx => by
                obtain ⟨_, _, _, _, _, _, _, h4, _⟩ := HR.out
                rcases hk : a.knows x with _ | _
                · refine decide_eq_false fun hm => ?_
                  have := (h4 x hm).2
                  unfold knG at this
                  rw [hk] at this
                  cases this
                · refine decide_eq_true (HD.out x hx ?_)
                  unfold knG
                  rw [hk]
                  rfl
              have HO5 := Lib.hid (HO4.out.congr (g' := knG fun x => a.knows x || anyOf (fun i => refsV (nthL a.box i).says x) a.box.length) fun x hx => by
                unfold knG
                simp only [hLk x hx])
              have HROW := Lib.hid (row_any HNo.out HF04.out.old a.ref)
              have hn3b : n3 ≤ nk + 2000 * 60 := by have := (HNo.out.ok.act a HAM.out).box.1; omega
              clear hLk HO4 HOL HR HD HLN HRNG HLF
              go_wp2_with fail
              refine HROW.out.mono ?_
              rintro e w5 ⟨v1, v2, rfl, hn1, hn2, hb5⟩
              have HF45 := Lib.hid (Fr.of_below (S := fun _ => False) hb5)
              have HNI := Lib.hid (And.intro hn1 hn2)
              obtain ⟨A6, c6, rfl, -⟩ := hn1
              obtain ⟨A7, c7, rfl, -⟩ := hn2
              have hRO := rowD_ok HNo.out.ok.rows.ok a.ref
              have HRW := Lib.hid (rowD_wf HNo.out.ok.rows a.ref)
              obtain ⟨r, hr⟩ : ∃ r, rowD N.rows a.ref = r := ⟨_, rfl⟩
              rw [hr] at HNI hRO HRW
              have HRE := Lib.hid hr
              have hcat : catTo (fun i => if i = 0 then r.ws else r.ls) 2 = r.ws ++ r.ls := by simp [catTo]
              obtain ⟨wq, hwq⟩ : ∃ wq, wq = w5.alloc (.cells #[.int .i64 r.ref, .slice A6 r.ws.length c6, .slice A7 r.ls.length c7] 132) := ⟨_, rfl⟩
              have hfq : Fr (fun _ => False) w5 wq := by rw [hwq]; exact (Fr.refl _ _).alloc _
              have hzq : wq.heap.size = w5.heap.size + 1 := by rw [hwq]; simp
              have hcc := concat_any (some ⟨wq.heap.size, 0, none⟩) 2 2 (fun i => if i = 0 then r.ws else r.ls) (fun _ => True) (wq.alloc (.cells #[.slice A6 r.ws.length c6, .slice A7 r.ls.length c7] 26)) (Nat.le_refl _) (by omega) (rdLs_two (HNI.out.1.fr hfq (fun _ _ h => h) (fun _ _ => trivial)) (HNI.out.2.fr hfq (fun _ _ h => h) (fun _ _ => trivial)) rfl) (by rw [hcat, List.length_append]; omega)
              rw [hcat] at hcc
              rw [hzq] at hcc
              have HCC := Lib.hid hcc
              have HWQ := Lib.hid hwq
              have HF5q := Lib.hid (HF45.out.trans' (hfq.alloc (.cells #[.slice A6 r.ws.length c6, .slice A7 r.ls.length c7] 26)))
              clear hb5 HROW hcat hcc hr hwq hfq hzq
              go_wp2_with fail
              rw [HRE.out, ← HWQ.out]
              refine HCC.out.mono ?_
              rintro e w6 ⟨v6, rfl, hO6, hb6⟩
              have HF56 := Lib.hid (HF5q.out.trans' (Fr.of_below (S := fun _ => False) hb6))
              obtain ⟨C, hC⟩ : ∃ C, r.ws ++ r.ls = C := ⟨_, rfl⟩
              have hCl : C.length ≤ 200 := by rw [← hC, List.length_append]; omega
              rw [hC] at hO6 HRW
              have HCE := Lib.hid hC
              have HO5lt := Lib.hid (show wo.heap.size < (wq.alloc (.cells #[.slice A6 r.ws.length c6, .slice A7 r.ls.length c7] 26)).heap.size from by have h1 := HO5.out.lt; have h2 := HF5q.out.size; omega)
              obtain ⟨A8, c8, rfl, -, -, -⟩ := own_any hO6
              have HO6 := Lib.hid hO6
              have HOM6 := Lib.hid (HO5.out.fr HF56.out (fun h => h))
              clear hO6 hb6 HCC hC HO5
              go_wp2_with fail
              go_loopw [13, 66] (fun _ v66 wx => ∃ q n7 : Nat, q ≤ C.length ∧ v66 = .int .i64 (q : Int) ∧ n7 ≤ n3 + q ∧ Hid (Fr (fun k => k = wo.heap.size) w6 wx) ∧ Hid (OwnM wx wo.heap.size n7 (knG fun x => (a.knows x || anyOf (fun i => refsV (nthL a.box i).says x) a.box.length) || decide (x ∈ C.take q)))) (fun _ v66 _ => C.length - (intOf v66).toNat)
              case atStart => exact ⟨0, n3, Nat.zero_le _, rfl, by omega, Lib.hid (Fr.refl _ _), Lib.hid (HOM6.out.congr fun x _ => by unfold knG; simp)⟩
              case round =>
                obtain ⟨w7, hw7⟩ : ∃ w7 : World, w7 = wr := ⟨_, rfl⟩
                subst hw7
                obtain ⟨q, n7, hq, rfl, hn7, HF7, HO7⟩ := hrel
                by_cases hlt3 : q < C.length
                · have hown7 := HO6.out.fr HF7.out (fun k hk e => by have := (HO6.out.blk k hk).1; have := HO5lt.out; omega)
                  obtain ⟨bC, offC, rfl, hbC, hcC⟩ := hown7.rd (by omega)
                  have cC := hcC q hlt3 0 _ rfl
                  simp only [Nat.mul_one, Nat.add_zero] at cC
                  have hxC : lst C q ∈ C := by
                    unfold lst
                    rw [List.getD_eq_getElem?_getD, List.getElem?_eq_getElem hlt3]
                    exact List.getElem_mem _
                  have htk : C.take (q + 1) = C.take q ++ [lst C q] := by
                    unfold lst
                    rw [List.take_add_one, List.getD_eq_getElem?_getD, List.getElem?_eq_getElem hlt3]
                    rfl
                  obtain ⟨y, hy⟩ : ∃ y, lst C q = y := ⟨_, rfl⟩
                  rw [hy] at cC hxC htk
                  obtain ⟨w8, hrun, ho8, hg8⟩ := OwnM.store und_refs HO7.out (by unfold maxLen; omega) y (.bool true) (HRW.out y hxC)
                  rw [knG_put] at ho8
                  have HO8 := Lib.hid ho8
                  have HG8 := Lib.hid hg8
                  have HTK := Lib.hid htk
                  have q1 : (0 : Int) ≤ (q : Int) := by omega
                  have q2 : (q : Int) < (C.length : Int) := by omega
                  clear hown7 hcC ho8 hg8 htk hxC hy
                  go_wp2_with fail
                  go_roundw
                  case rel =>
                    refine ⟨q + 1, _, by omega, by go_num, ?_, Lib.hid (HF7.out.trans' (Fr.of_grown HG8.out (fun k hk => .inl (by injection hk with hk; exact hk.symm)))), Lib.hid (HO8.out.congr fun x _ => ?_)⟩
                    · split <;> omega
                    · unfold knG
                      rw [HTK.out]
                      simp [Bool.or_assoc]
                  case measure => simp [intOf]; omega
                · obtain rfl : q = C.length := by omega
                  have HK7 := Lib.hid (HO7.out.congr (g' := knG fun x => knowB N a x) fun x _ => by
                    unfold knG knowB
                    rw [HRE.out, HCE.out, List.take_length])
                  have HF07 := Lib.hid ((HF04.out.trans' (HF56.out.weak (fun _ h => h.elim))).trans' (HF7.out.weak (S2 := fun k => wo.heap.size ≤ k) (fun k hk => by omega))).old
                  have hA7 := HAG.out.fr (X' := X) HF07.out (fun _ h => h.elim) (fun k hk => .inl hk) (fun _ h => h.elim) (Nat.le_refl _) (fun _ _ h => h)
                  have HCAN := Lib.hid ((can_any X base T MA pa b rb kb ib a w7 hA7).mono (R' := fun e w' => e = .returned (.bool (canA a)) ∧ Fr (fun _ => False) w7 w') fun e w' hh => ⟨hh.1, by obtain ⟨_, q, hq⟩ := hh; rw [hq]; exact (Fr.refl _ _).drewN _⟩)
                  have a4 := hA7.a4
                  have a5 := hA7.a5
                  have a2 := HF07.out.cell b20 (fun h => h)
                  have hpl7 := hA7.lt.1
                  have hn7b : n7 ≤ nk + 2000 * 60 + 200 := by omega
                  clear hA7 HO7
                  go_upto_region 22 with (fail)
                  go_cut [14, 45, 46, 47] (fun v14 _ _ _ wx => ∃ qk, v14 = .pointer (some ⟨qk, 0, none⟩) ∧ CellsN wx qk [.int .i64 a.ref, .bool (awakeA a), .bool false, .slice none 0 0] ∧ Hid (Fr (fun _ => False) w7 wx) ∧ w7.heap.size ≤ qk)
                  case first =>
                    have HAW := Lib.hid (show awakeA a = (canA a || decide (0 < a.box.length) || (a.waits && decide (0 ≤ a.ticks))) from rfl)
                    rcases hc : canA a with _ | _
                    · rw [hc] at HCAN HAW
                      go_wp2_with fail
                      refine HCAN.out.mono ?_
                      rintro e w8 ⟨rfl, hf8⟩
                      have HF8 := Lib.hid hf8
                      have d2 := hf8.cell a2 (fun h => h)
                      have d4 := hf8.cell a4 (fun h => h)
                      have d5 := hf8.cell a5 (fun h => h)
                      have hpl8 := Nat.lt_of_lt_of_le hpl7 hf8.size
                      clear hf8 a2 a4 a5
                      by_cases hbl : 0 < a.box.length
                      · have e1 : decide ((0 : Int) < (a.box.length : Int)) = true := decide_eq_true (by omega)
                        rw [decide_eq_true hbl] at HAW
                        go_wp2_with fail
                        go_meet
                        refine ⟨w8.heap.size, rfl, ?_, Lib.hid (HF8.out.alloc _), HF8.out.size⟩
                        rw [HAW.out]
                        exact cellsN_new w8 [_, _, _, _] _
                      · have e1 : decide ((0 : Int) < (a.box.length : Int)) = false := decide_eq_false (by omega)
                        rw [decide_eq_false hbl] at HAW
                        rcases hw : a.waits with _ | _
                        · rw [hw] at d4 HAW
                          clear hw
                          go_wp2_with fail
                          go_meet
                          refine ⟨w8.heap.size, rfl, ?_, Lib.hid (HF8.out.alloc _), HF8.out.size⟩
                          rw [HAW.out]
                          exact cellsN_new w8 [_, _, _, _] _
                        · rw [hw] at d4 HAW
                          clear hw
                          by_cases htk : 0 ≤ a.ticks
                          · have e2 : decide ((0 : Int) ≤ a.ticks) = true := decide_eq_true htk
                            rw [e2] at HAW
                            clear htk
                            go_wp2_with fail
                            go_meet
                            refine ⟨w8.heap.size, rfl, ?_, Lib.hid (HF8.out.alloc _), HF8.out.size⟩
                            rw [HAW.out]
                            exact cellsN_new w8 [_, _, _, _] _
                          · have e2 : decide ((0 : Int) ≤ a.ticks) = false := decide_eq_false htk
                            rw [e2] at HAW
                            clear htk
                            go_wp2_with fail
                            go_meet
                            refine ⟨w8.heap.size, rfl, ?_, Lib.hid (HF8.out.alloc _), HF8.out.size⟩
                            rw [HAW.out]
                            exact cellsN_new w8 [_, _, _, _] _
                    · rw [hc] at HCAN HAW
                      go_wp2_with fail
                      refine HCAN.out.mono ?_
                      rintro e w8 ⟨rfl, hf8⟩
                      have HF8 := Lib.hid hf8
                      clear hf8
                      go_wp2_with fail
                      go_meet
                      refine ⟨w8.heap.size, rfl, ?_, Lib.hid (HF8.out.alloc _), HF8.out.size⟩
                      rw [HAW.out]
                      exact cellsN_new w8 [_, _, _, _] _
                  case rest =>
                    obtain ⟨qk, rfl, hKC, HFc, hqk⟩ := hcut
                    have HKC := Lib.hid hKC
                    have HK8 := Lib.hid (HK7.out.fr HFc.out (fun h => h))
                    have hmA8 := HK8.out.lt
                    have hqlt := hKC.2.2
                    have hmq : wo.heap.size ≠ qk := by have := HK7.out.lt; omega
                    have HF08 := Lib.hid (HF07.out.trans' HFc.out)
                    clear hKC HCAN a2 a4 a5 b23 HO6 HOM6 HRW HBX0
                    go_wp2_with (first | (at_range; go_loud (refine wp_range_N rfl _ 108 4 rfl und_refs wo.heap.size n7 _ rfl HK8.out ?_); intro w9 hrng hfr hsz hlf; have HRNG9 := Lib.hid hrng; have HFR9 := Lib.hid hfr; have HSZ9 := Lib.hid hsz; have HLF9 := Lib.hid hlf; clear hrng hfr hsz hlf))
                    go_frame
                    have hmr : wo.heap.size ≠ wc.heap.size := by omega
                    have hqr : qk ≠ wc.heap.size := by omega
                    go_loopw [15] (fun _ wx => ∃ L2 R A9 c9, Hid (RngM wx wo.heap.size wc.heap.size (knG fun x => knowB N a x) L2) ∧ Hid (L2.length + wx.rangeLeft wo.heap.size wc.heap.size ≤ n7) ∧ R.length ≤ L2.length ∧ Hid (CellsN wx qk [.int .i64 a.ref, .bool (awakeA a), .bool false, .slice A9 R.length c9]) ∧ Hid (OwnI wx w9.heap.size (.slice A9 R.length c9) R) ∧ Hid (∀ x, x ∈ R ↔ x ∈ L2 ∧ x ≠ 0 ∧ x ≠ a.ref) ∧ Hid R.Nodup ∧ Hid (Fr (fun k => k = qk ∨ k = wc.heap.size) w9 wx)) (fun _ wx => wx.rangeLeft wo.heap.size wc.heap.size)
                    case atStart => exact ⟨[], [], none, 0, HRNG9, Lib.hid (by rw [HLF9.out]; simp), Nat.le_refl _, Lib.hid (HKC.out.fr HFR9.out (fun h => h)), Lib.hid (OwnI.nil _ _), Lib.hid (fun x => by simp), Lib.hid List.nodup_nil, Lib.hid (Fr.refl _ _)⟩
                    case round =>
                      obtain ⟨wd, hwd⟩ : ∃ wd : World, wd = wr := ⟨_, rfl⟩
                      subst hwd
                      obtain ⟨L2, R, A9, c9, HR9, HLN9, hRL, HC9, HO9, HRM, HRN, HF9⟩ := hrel
                      have hz9 := HF9.out.size
                      have hs9 := HSZ9.out
                      have hq9 : qk < w9.heap.size := by omega
                      have hm9 : wo.heap.size < w9.heap.size := by omega
                      have hw9 : wc.heap.size < w9.heap.size := by omega
                      clear hs9
                      have k0 := HC9.out.1 0 _ rfl
                      have k1 := HC9.out.1 1 _ rfl
                      have k2 := HC9.out.1 2 _ rfl
                      have k3 := HC9.out.1 3 _ rfl
                      have kq := HC9.out.2.2
                      obtain ⟨i0, hi0, jz0, jz1, jz2⟩ := info_parts infoI
                      have hRb : R.length ≤ 1000000000000 := by have := HLN9.out; omega
                      go_wp2_with (first
                        | (at_next; go_loud (refine wp_next_M rfl _ rfl wo.heap.size wc.heap.size (knG fun x => knowB N a x) L2 rfl HR9.out ?_ ?_; rotate_left; (intro x v wn hwx hgx hxL hRn hltn hfn hsn hen; obtain rfl : v = .bool true := (by unfold knG at hgx; split at hgx; (· injection hgx with hgx; exact hgx.symm); (· cases hgx)); have HRn := Lib.hid hRn; have HFn := Lib.hid hfn; have HLTn := Lib.hid hltn; have HXL := Lib.hid hxL; have HCn := Lib.hid (HC9.out.fr hfn hqr); have n0 := HCn.out.1 0 _ rfl; have n3' := HCn.out.1 3 _ rfl; have nf := HCn.out.2.1; have hqn := HCn.out.2.2; have HOn := Lib.hid (show OwnI wn w9.heap.size (.slice A9 R.length c9) R from hfn.row HO9.out (fun k hk e => by have := (HO9.out.blk k hk).1; omega)); clear hwx hgx hRn hfn hltn hsn hxL; obtain ⟨bx, hbx⟩ : ∃ bx, (x != 0) = bx := ⟨_, rfl⟩; obtain ⟨bz, hbz⟩ : ∃ bz, (x != a.ref) = bz := ⟨_, rfl⟩); rotate_left; (intro hd; have HD9 := Lib.hid hd; clear hd)))
                        | (at_builtin; go_loud (refine wpList_append_lies _ rfl _ _ 26 rfl w9.heap.size 3 i0 (.int .i64 0) 1 8 Tryz.underlying26 hi0 jz0 jz1 jz2 rfl (by decide) (.slice A9 R.length c9) R.length (encI R) rfl (HOn.out.alloc _) ⟨wn.heap.size, 0, none⟩ 1 1 [.int .i64 x] rfl rfl (cell_newL _ _ _ _ rfl) (fun u hu => (by simp at hu; subst hu; rfl)) (by omega) (by unfold maxLen; omega) (by omega) (by simp; have := HFn.out.size; omega) (wn.heap.size + 1) (by simp) ?_; intro g cap w6' hown6 hgrow6 hat6 hlt6; have HO6' := Lib.hid hown6; have HG6' := Lib.hid hgrow6; have HA6' := Lib.hid hat6; have hneb : some qk ≠ (Value.slice A9 R.length c9).ownBlock := (fun e => by have := (HOn.out.blk qk e.symm).1; omega); have x3 := (grown_cell (b := qk) (o := 3) hgrow6 (by simp; omega) hneb).trans ((World.cell?_alloc_lt _ _ ⟨qk, 3, none⟩ hqn).trans n3'); have xf := (grown_frozen (b := qk) (o := 3) hgrow6 (by simp; omega) hneb).trans ((grown_frozen (b := qk) (o := 3) (World.grownBy_alloc wn _ none) hqn (by simp)).trans (nf 3)); clear hown6 hgrow6 hat6)))
                      · refine (sortI_own _ _ R _ HO9.out (by omega)).mono ?_
                        rintro e w10 ⟨rfl, hO10, hg10⟩
                        have hfd : Fr (fun k => w9.heap.size ≤ k) wd w10 := Fr.of_grown hg10 (fun k hk => .inl (HO9.out.blk k hk).1)
                        have hkr := HKR.out.row.lt
                        have HF010 := Lib.hid (show Fr (fun _ => False) wo w10 from by
                          have g1 : Fr (fun k => wo.heap.size ≤ k) wo w9 := (HF08.out.trans' HFR9.out).weak (fun _ h => h.elim)
                          have g0 := HF07.out.size
                          have g00 := HFc.out.size
                          have g2 : Fr (fun k => wo.heap.size ≤ k) w9 w10 := (HF9.out.weak (S2 := fun k => wo.heap.size ≤ k) (fun k hk => by show wo.heap.size ≤ k; omega)).trans' (hfd.weak (fun k hk => by have h9 : w9.heap.size ≤ k := hk; show wo.heap.size ≤ k; omega))
                          exact (g1.trans' g2).old)
                        have HC10 := Lib.hid (HC9.out.fr hfd (fun h => by have h9 : w9.heap.size ≤ qk := h; omega))
                        have HO10 := Lib.hid hO10
                        have HKR10 := Lib.hid (HKR.out.new HF010.out)
                        have z0 := HC10.out.1 0 _ rfl
                        have z1 := HC10.out.1 1 _ rfl
                        have z2 := HC10.out.1 2 _ rfl
                        have z3 := HC10.out.1 3 _ rfl
                        have zq := HC10.out.2.2
                        have HU := Lib.hid (show ∀ b, (Value.slice A9 R.length c9).ownBlock = some b → (Value.slice A i c).ownBlock ≠ some b from fun b hb e => by have h1 := (hO10.blk b hb).1; have h2 := (hkr b e).2; omega)
                        have hzw : w1.heap.size ≤ w10.heap.size := by have := HFo.out.size; have := HF010.out.size; omega
                        have hzw9 : w1.heap.size ≤ w9.heap.size := by have := HFo.out.size; omega
                        obtain ⟨j0, hj0, kz0, kz1, kz2⟩ := info_parts infoKn
                        clear hO10 hg10 hfd hkr k0 k1 k2 k3
                        go_wp2_with (at_builtin; go_loud (refine wpList_append_lies _ rfl _ _ 86 rfl w1.heap.size 89 j0 _ 4 40 Tryz.underlying86 hj0 kz0 kz1 kz2 rfl (by omega) (.slice A i c) i (flatC (knC K V) i) rfl (HKR10.out.row.alloc _) ⟨w10.heap.size, 0, none⟩ 1 1 [.int .i64 a.ref, .bool (awakeA a), .bool false, .slice A9 R.length c9] rfl rfl (cell_newL _ _ _ _ rfl) (fun u hu => (by simp at hu; rcases hu with rfl | rfl | rfl | rfl <;> rfl)) (by omega) (by unfold maxLen; omega) (by omega) (by simp; omega) (w10.heap.size + 1) (by simp) ?_; intro g cap w11 hown11 hgrow11 hat11 hlt11; have HO11 := Lib.hid hown11; have HG11 := Lib.hid hgrow11; have HA11 := Lib.hid hat11; clear hown11 hgrow11 hat11))
                        refine ⟨⟨i + 1, upK K i ⟨a.ref, awakeA a, srt R⟩, upV V i (.slice A9 R.length c9), some ⟨g, 0, none⟩, cap, by omega, by go_num, rfl, Lib.hid ?_, Lib.hid ?_, Lib.hid ?_⟩, ?_⟩
                        · refine KnRow.snoc (k := ⟨a.ref, awakeA a, srt R⟩) HKR10.out HG11.out HO11.out (HO10.out.mono hzw9) HU.out ?_
                          rcases HA11.out with h | h
                          · exact .inl h.symm
                          · exact .inr ⟨g, rfl, by omega⟩
                        · intro j b hj hb
                          by_cases e : j = i
                          · subst e
                            have hba : b = a := by
                              have := HAI.out
                              rw [hb] at this
                              injection this
                            subst hba
                            unfold upK
                            rw [if_pos rfl]
                            refine ⟨rfl, rfl, ?_, fun x hx => ?_, fun x hx => ?_, (by show (srt R).length ≤ _; rw [(srt_perm R).length_eq]; exact hRb)⟩
                            · have hnd : (srt R).Nodup := (srt_perm R).nodup_iff.2 HRN.out
                              exact (List.pairwise_and_iff.2 ⟨srt_pairwise R, hnd⟩).imp (by intro a b h; have h1 := h.1; have h2 := h.2; omega)
                            · rw [(srt_perm R).mem_iff, HRM.out x]
                              refine and_congr_left fun _ => ⟨fun hm => ?_, fun hk => ?_⟩
                              · obtain ⟨_, _, _, _, _, _, _, h4, _⟩ := HR9.out
                                have := (h4 x hm).2
                                unfold knG at this
                                by_cases hk : knowB N b x = true
                                · exact hk
                                · rw [if_neg hk] at this
                                  cases this
                              · refine HD9.out x hx ?_
                                unfold knG
                                rw [if_pos hk]
                                rfl
                            · have hm := (HRM.out x).1 ((srt_perm R).mem_iff.1 hx)
                              obtain ⟨_, _, _, _, _, _, _, h4, _⟩ := HR9.out
                              exact (h4 x hm.1).1
                          · unfold upK
                            rw [if_neg e]
                            exact HKO.out j b (by omega) hb
                        · refine HFo.out.trans (S2 := fun k => w1.heap.size ≤ k) ?_ (fun k hk => .inr hk)
                          exact (HF010.out.weak (fun _ h => h.elim)).trans' (((Fr.refl _ w10).alloc _).trans' (Fr.of_grown HG11.out (fun k hk => .inl ((HKR.out.row.lt k hk).1))))
                        · simp [intOf]; omega
                      all_goals
                        have hlt9 := HLTn.out
                        have hlen9 := HLN9.out
                        have hl1 : (L2 ++ [x]).length = L2.length + 1 := by simp
                        first
                          | (have hkk := kn_keep rfl HCn.out HOn.out hq9 HO6'.out HG6'.out
                             have hR2 := HRn.out.fr hkk.1 (fun h => by rcases h with h | h; exact hmq h; exact absurd (HOn.out.blk _ h).1 (by omega)) (fun h => by rcases h with h | h; exact hqr h.symm; exact absurd (HOn.out.blk _ h).1 (by omega))
                             have hl2 : (R ++ [x]).length = R.length + 1 := by simp
                             rename_i hA hB
                             have hx0 : x ≠ 0 := by rw [hA] at hbx; simpa using hbx
                             have hxr : x ≠ a.ref := by rw [hB] at hbz; simpa using hbz
                             refine ⟨⟨L2 ++ [x], R ++ [x], some ⟨g, 0, none⟩, cap, Lib.hid hR2.1, Lib.hid ?_, ?_, ?_, ?_, Lib.hid ?_, Lib.hid ?_, Lib.hid ?_⟩, ?_⟩
                             · rw [hl1, hR2.2]; omega
                             · rw [hl1, hl2]; omega
                             · rw [hl2]; exact Lib.hid hkk.2.1
                             · rw [hl2]; exact Lib.hid hkk.2.2
                             · intro y
                               rw [List.mem_append, List.mem_append, List.mem_singleton, HRM.out y]
                               constructor
                               · rintro (h | rfl)
                                 · exact ⟨.inl h.1, h.2⟩
                                 · exact ⟨.inr rfl, hx0, hxr⟩
                               · rintro ⟨h | h, h2⟩
                                 · exact .inl ⟨h, h2⟩
                                 · exact .inr h
                             · rw [List.nodup_append]
                               refine ⟨HRN.out, by simp, fun c hc d hd e => ?_⟩
                               rw [List.mem_singleton] at hd
                               exact HXL.out (by rw [← hd, ← e]; exact ((HRM.out c).1 hc).1)
                             · exact (HF9.out.trans' (HFn.out.weak (fun k hk => .inr hk))).trans hkk.1 (fun k hk => by
                                rcases hk with hk | hk
                                · exact .inl (.inl hk)
                                · exact .inr (HOn.out.blk _ hk).1)
                             · rw [hR2.2]; exact hlt9)
                          | (have hskip : ¬ (x ≠ 0 ∧ x ≠ a.ref) := fun h => by
                               have e1 : bx = true := by rw [← hbx]; simpa using h.1
                               have e2 : bz = true := by rw [← hbz]; simpa using h.2
                               simp_all
                             refine ⟨⟨L2 ++ [x], R, A9, c9, HRn, Lib.hid ?_, ?_, HCn, HOn, Lib.hid ?_, HRN, Lib.hid ?_⟩, ?_⟩
                             · rw [hl1]; omega
                             · rw [hl1]; omega
                             · intro y
                               rw [HRM.out y, List.mem_append, List.mem_singleton]
                               constructor
                               · rintro ⟨h, h2⟩
                                 exact ⟨.inl h, h2⟩
                               · rintro ⟨h | h, h2⟩
                                 · exact ⟨h, h2⟩
                                 · rw [h] at h2
                                   exact absurd h2 hskip
                             · exact HF9.out.trans' (HFn.out.weak (fun k hk => .inr hk))
                             · exact hlt9)
        · go_roundw
          case rel =>
            have hk6 := HR5.out.fr (Fr.of_grown (S := fun k => k = wo.heap.size) HG6.out (fun k hk => .inl (by injection hk with hk; exact hk.symm))) (fun e => by have := HKN.out.lt; omega) (by omega)
            refine ⟨L ++ [x], _, Lib.hid hk6.1, ?_, Lib.hid ?_, Lib.hid (HO6.out.congr fun y _ => by unfold knG; simp), Lib.hid ?_⟩
            · rw [List.length_append]
              show _ ≤ L.length + 1
              split <;> omega
            · rw [List.length_append, hk6.2]
              have h1 := HLN.out
              have h2 := HLT5.out
              show L.length + 1 + _ ≤ _
              omega
            · exact (HF3.out.trans' (HF5.out.weak (fun k hk => .inr hk))).trans' (Fr.of_grown HG6.out (fun k hk => .inl (.inl (by injection hk with hk; exact hk.symm))))
          case measure =>
            have hk6 := HR5.out.fr (Fr.of_grown (S := fun k => k = wo.heap.size) HG6.out (fun k hk => .inl (by injection hk with hk; exact hk.symm))) (fun e => by have := HKN.out.lt; omega) (by omega)
            show w6.rangeLeft kb rr < w3.rangeLeft kb rr
            rw [hk6.2]
            exact HLT5.out
    · obtain rfl : i = N.acts.length := by omega
      go_wp2_with fail
      go_ret
      exact ⟨A, c, K, V, rfl, HKR.out.mono hz1, fun i a ha => HKO.out i a (by
        have := (List.getElem?_eq_some_iff.1 ha).1
        omega) ha, (HF1.out.trans' HFo.out).below (fun _ h => h.elim) (Nat.le_refl _)⟩
end Go.Proofs.YtjjfglbcikaicaaGreat
namespace Go.Proofs.YtjjfglbcikaicaaGreat
open Go.RowKit
set_option linter.unusedVariables false
set_option linter.unusedSimpArgs false
/-- M1 are one node's blocks, X2 and M2 another one's -/
structure Apart2 (base : Nat) (M1 X2 M2 : Nat → Prop) : Prop where
  sub : ∀ k, M1 k → X2 k ∧ base ≤ k
  dis : ∀ k, M1 k → ¬ M2 k
section
variable {w w' : World} {X1 M1 X1' M1' X2 M2 : Nat → Prop} {base base2 T1 T2 p1 p2 : Nat} {P1 P2 : Int → Nat} {N1 N2 : NdS}
/-- a call of the first node; the second one stays -/
theorem NodeAt.other (h2 : NodeAt w X2 M2 base T2 p2 P2 N2) (hg : Gr X1 M1 w X1' M1' w') (hn : NodeAt w' X1' M1' base2 T1 p1 P1 N1) (ha : Apart2 base M1 X2 M2) (hb : base ≤ w.heap.size) :
    NodeAt w' (XW X2 w w') M2 base T2 p2 P2 N2 ∧ Apart2 base M1' (XW X2 w w') M2 := by
  have h3 : NodeAt w' (XW X2 w w') M2 base T2 p2 P2 N2 := h2.fr hg.fr ha.sub (fun k hk => .inl hk) (fun k hk => hk) (fun k hk hm => ha.dis k hm hk)
  refine ⟨h3, fun k hk => ?_, fun k hk hm => ?_⟩
  · rcases hg.ms k hk with h | h
    · exact ⟨.inl (ha.sub k h).1, (ha.sub k h).2⟩
    · exact ⟨.inr ⟨h, hn.xlt k (hn.2.2.1 k hk).1⟩, by omega⟩
  · rcases hg.ms k hk with h | h
    · exact ha.dis k h hm
    · have := h2.xlt k (h2.2.2.1 k hm).1
      omega
/-- and the other way round: the second node's blocks lie where the first one may be changed -/
theorem Apart2.up (ha : Apart2 base M2 X1 M1) (hg : Gr X1 M1 w X1' M1' w') (h2 : ∀ k, M2 k → k < w.heap.size) : Apart2 base M2 X1' M1' :=
  ⟨fun k hk => ⟨hg.up k (ha.sub k hk).1, (ha.sub k hk).2⟩, fun k hk hm => by
    rcases hg.ms k hm with h | h
    · exact ha.dis k hk h
    · have := h2 k hk; omega⟩
/-- both nodes, each apart from the other -/
structure Two (w : World) (base T1 T2 p1 p2 : Nat) (P1 P2 : Int → Nat) (X1 M1 X2 M2 : Nat → Prop) (N1 N2 : NdS) : Prop where
  n1 : NodeAt w X1 M1 base T1 p1 P1 N1
  n2 : NodeAt w X2 M2 base T2 p2 P2 N2
  a12 : Apart2 base M1 X2 M2
  a21 : Apart2 base M2 X1 M1
  hb : base ≤ w.heap.size
theorem Two.sym (h : Two w base T1 T2 p1 p2 P1 P2 X1 M1 X2 M2 N1 N2) : Two w base T2 T1 p2 p1 P2 P1 X2 M2 X1 M1 N2 N1 := ⟨h.n2, h.n1, h.a21, h.a12, h.hb⟩
/-- the first one is called -/
theorem Two.call {T1' : Nat} {P1' : Int → Nat} {N1' : NdS} (h : Two w base T1 T2 p1 p2 P1 P2 X1 M1 X2 M2 N1 N2) (hg : Gr X1 M1 w X1' M1' w') (hn : NodeAt w' X1' M1' base T1' p1 P1' N1') : Two w' base T1' T2 p1 p2 P1' P2 X1' M1' (XW X2 w w') M2 N1' N2 := by
  obtain ⟨h2, h3⟩ := h.n2.other hg hn h.a12 h.hb
  exact ⟨hn, h2, h3, h.a21.up hg (fun k hk => h.n2.xlt k (h.n2.2.2.1 k hk).1), Nat.le_trans h.hb hg.fr.size⟩
theorem Two.new (h : Two w base T1 T2 p1 p2 P1 P2 X1 M1 X2 M2 N1 N2) (hf : Fr (fun _ => False) w w') : Two w' base T1 T2 p1 p2 P1 P2 X1 M1 X2 M2 N1 N2 :=
  ⟨h.n1.new hf (fun _ h => h), h.n2.new hf (fun _ h => h), h.a12, h.a21, Nat.le_trans h.hb hf.size⟩
end
end Go.Proofs.YtjjfglbcikaicaaGreat
namespace Go.Proofs.YtjjfglbcikaicaaGreat
open Go.RowKit
set_option linter.unusedVariables false
set_option linter.unusedSimpArgs false
/-- letters are the same as themselves -/
theorem sameLs_self {w : World} {S1 S2 : Nat → Prop} {A B : Option Addr} {n c d : Nat} {arg : Nat → LT} (hn : n ≤ 9223372036854775807) (h1 : RdL w S1 A n arg) (h2 : RdL w S2 B n arg) :
    Calls Tryz.prog 20 #[.slice A n c, .slice B n d] w fun e w' => e = .returned (.bool true) ∧ Below w.heap.size w w' := by
  have e : (n == n && allTo (fun i => sameLB (arg i) (arg i)) n) = true := by
    have h : allTo (fun i => sameLB (arg i) (arg i)) n = true := by
      rw [allTo_true]
      intro i hi
      obtain ⟨b, off, _, _, _, C, hC⟩ := h1 (by omega)
      exact sameLB_refl (hC i hi).1
    rw [h]
    simp
  have h := sameLs_any n n c d A B arg arg S1 S2 w hn hn h1 h2
  rw [e] at h
  exact h
/-- the letters that were told lie in blocks that nobody writes, or that were the node's -/
def OutPost2 (X M : Nat → Prop) (base T p : Nat) (P : Int → Nat) (N : NdS) (w : World) (e : Ending) (w' : World) : Prop :=
  ∃ A c S M', e = .returned (.slice A N.out.length c) ∧ N.out.length ≤ c ∧ c ≤ 9223372036854775807 ∧ RdL w' S A N.out.length (nthL N.out) ∧ (∀ k, S k → ¬ X k ∨ M k) ∧ Gr X M w X M' w' ∧ NodeAt w' X M' base T p P (outN N)
set_option maxRecDepth 100000 in
set_option maxHeartbeats 4000000 in
theorem out_any2 {w : World} {X M : Nat → Prop} {base T p : Nat} {P : Int → Nat} {N : NdS} (h : NodeAt w X M base T p P N) :
    Calls Tryz.prog 21 #[.pointer (some ⟨p, 0, none⟩)] w (OutPost2 X M base T p P N w) := by
  have hpX := h.pM
  obtain ⟨h1, h2, h3, mb, hb, MA, ob, sb, h4, h5⟩ := h
  obtain ⟨v8, C, c8, ho⟩ := h4.c8
  obtain ⟨A, c, rfl, k1, k2, k3⟩ := own_any ho.row
  have hG := h4.out0 hpX.2
  have hfz := h4.fz 8
  have hap := h4.ap
  have hown := h4.own
  have HF := Lib.hid (show OutPost2 X M base T p P N w (.returned (.slice A N.out.length c)) (w.setCell ⟨p, 8, none⟩ (.slice none 0 0)) from by
    have hfr : Fr (fun k => k = p) w (w.setCell ⟨p, 8, none⟩ (.slice none 0 0)) := Fr.setAt (Fr.refl _ w) _
    refine ⟨A, c, fun k => ¬ X k ∨ ob = some k, fun k => M k ∧ ob ≠ some k, rfl, k1, k2, ?_, fun k hk => ?_, ⟨(Fr.refl M w).set (.inl hpX.1) _, fun _ h => h, fun _ h => .inl h, fun k hk => .inl hk.1⟩, { h1 with }, fun k hk => by simpa using h2 k hk, fun k hk => h3 k hk.1, mb, hb, MA, none, sb, hG, ⟨h5.p, fun e => (hap.2.2.2.1 p e).1 rfl⟩, ⟨h5.mb, fun e => (hap.2.2.2.1 mb e).2.1 rfl⟩, ⟨h5.hb, fun e => (hap.2.2.2.1 hb e).2.2.1 rfl⟩, fun k hk => (by cases hk), fun k hk => ⟨h5.sb k hk, fun e => (hap.2.2.2.1 k e).2.2.2 hk⟩, fun a ha k hk => ⟨h5.act a ha k hk, fun e => (hown a ha k hk).2.2.2.1 e⟩⟩
    · intro h0
      obtain ⟨g, cap, hv, hb0, hlt, hc⟩ := own_form ho.row h0
      injection hv with e1 e2 e3
      subst e1 e3
      have hog : ob = some g := ho.blk.symm
      have hgp : g ≠ p := (hap.2.2.2.1 g hog).1
      refine ⟨g, 0, rfl, by simpa using hlt, .inr hog, C, fun i hi => ⟨?_, fun j u hu => ?_⟩⟩
      · exact isL_frame hfr.size (fun k hk hl => ⟨.inl hk, hfr.block k hl (fun e => hk (e ▸ hpX.2.1))⟩) (ho.each i hi)
      · have hj : j < 9 := by
          have := (List.getElem?_eq_some_iff.1 hu).1
          rw [ho.len i] at this
          exact this
        have := own_cellC ho.row ho.len hi hj
        rw [Nat.zero_add]
        exact hfr.cell (this.trans hu) hgp
    · rcases hk with hk | hk
      · exact .inl hk
      · exact .inr (h5.ob k hk))
  clear h1 h2 h3 h4 h5 hG hap hown ho k3
  go_enter Tryz.func21, Tryz.ntmps21
  go_wp2_with fail
  refine bodyPost_ret (v := .slice A N.out.length c) (by simp [results, Tryz.results21, go_sem]) rfl ?_
  exact HF.out
/-- two nodes that were begun, one behind the other -/
theorem two_begun {w2 w3 : World} {base T1 T2 p1 p2 : Nat} {P1 P2 : Int → Nat} {X1 M1 X2 M2 : Nat → Prop} {N1 N2 : NdS} (h1 : NodeAt w2 X1 M1 base T1 p1 P1 N1) (hf : Fr (fun _ => False) w2 w3) (hX : ∀ k, X1 k → X2 k) (hM : ∀ k, M2 k → w2.heap.size ≤ k) (h2 : NodeAt w3 X2 M2 base T2 p2 P2 N2) (hb : base ≤ w3.heap.size) : Two w3 base T1 T2 p1 p2 P1 P2 (XW X1 w2 w3) M1 X2 M2 N1 N2 :=
  ⟨h1.xw hf, h2, ⟨fun k hk => ⟨hX k (h1.2.2.1 k hk).1, (h1.2.2.1 k hk).2⟩, fun k hk hm => by
    have := h1.xlt k (h1.2.2.1 k hk).1
    have := hM k hm
    omega⟩, ⟨fun k hk => ⟨.inr ⟨hM k hk, h2.xlt k (h2.2.2.1 k hk).1⟩, (h2.2.2.1 k hk).2⟩, fun k hk hm => by
    have := h1.xlt k (h1.2.2.1 k hm).1
    have := hM k hk
    omega⟩, hb⟩
theorem argDds_nil (w : World) : ArgDds w (.slice none 0 0) [] := ⟨none, 0, rfl, Nat.le_refl _, by omega, fun h => absurd h (by simp), fun k hk => absurd hk (by simp)⟩
/-- rows of the same numbers are equal -/
theorem equalI_own {w : World} {B1 B2 c d : Nat} {A B : Option Addr} {n : Nat} {l : List Int} (hn : n = l.length) (h1 : OwnI w B1 (.slice A n c) l) (h2 : OwnI w B2 (.slice B n d) l) (hl : l.length ≤ 9223372036854775807) :
    Calls Tryz.prog 30 #[.slice A n c, .slice B n d] w fun e w' => e = .returned (.bool true) ∧ Below w.heap.size w w' := by
  subst hn
  exact equalI_same A B _ _ c d (lst l) (lst l) w rfl hl h1.rd h2.rd (fun _ _ => rfl)
end Go.Proofs.YtjjfglbcikaicaaGreat
namespace Go.Proofs.YtjjfglbcikaicaaGreat
open Go.RowKit
set_option linter.unusedVariables false
set_option linter.unusedSimpArgs false
set_option maxHeartbeats 400000 in
theorem ixK_any (I : World → Prop) (A : Option Addr) (b off n c f : Nat) (cp : Array Value) (g0 g1 g2 g3 : Nat → Value) (p : Nat → Bool) (w : World) (hn : n ≤ 9223372036854775807)
    (hA : 0 < n → A = some ⟨b, off, none⟩) (he : Enters Tryz.prog f)
    (hc : ∀ W, I W → ∀ k, k < n → W.cell? ⟨b, off + k * 4, none⟩ = some (g0 k) ∧ W.cell? ⟨b, off + k * 4 + 1, none⟩ = some (g1 k) ∧ W.cell? ⟨b, off + k * 4 + 2, none⟩ = some (g2 k) ∧ W.cell? ⟨b, off + k * 4 + 3, none⟩ = some (g3 k))
    (hf : ∀ W, I W → ∀ k, k < n → Calls Tryz.prog f (#[.agg #[g0 k, g1 k, g2 k, g3 k]] ++ cp) W fun e W' => e = .returned (.bool (p k)) ∧ I W') (hw : I w) :
    Calls Tryz.prog 70 #[.slice A n c, .func (.func f) #[] cp] w fun e w' => e = .returned (.int .i64 (ixOf p n)) ∧ I w' := by
  have HC := Lib.hid hc
  have HF := Lib.hid hf
  have HA := Lib.hid hA
  have HE := Lib.hid he
  clear hc hf hA he
  go_enter Tryz.func70, Tryz.ntmps70
  go_wp2_with fail
  go_loopw [5, 4, 8] (fun _ _ i wr => ∃ k : Nat, k ≤ n ∧ i = .int .i64 k ∧ (∀ j, j < k → p j = false) ∧ I wr) (fun _ _ i _ => n - (intOf i).toNat)
  case atStart => exact ⟨0, Nat.zero_le _, rfl, fun j hj => by omega, hw⟩
  case round =>
    obtain ⟨k, hk, rfl, hlow, hI⟩ := hrel
    have HL := Lib.hid hlow
    clear hlow
    by_cases hlt : k < n
    · obtain rfl := HA.out (by omega)
      obtain ⟨hc0, hc1, hc2, hc3⟩ := HC.out wr hI k hlt
      have hen := HE.out (#[.agg #[g0 k, g1 k, g2 k, g3 k]] ++ cp) wr
      go_wp2_with fail
      refine (HF.out wr hI k hlt).mono ?_
      rintro e W' ⟨rfl, hI'⟩
      by_cases hp : p k = true
      · clear hc0 hc1 hc2 hc3 hen
        go_wp2_with fail
        go_ret
        exact ⟨ret_int (ixOf_found hlt hp HL.out).symm, hI'⟩
      · have hp' : p k = false := by simpa using hp
        clear hc0 hc1 hc2 hc3 hen hp
        go_wp2_with fail
        go_roundw
        case rel =>
          refine ⟨k + 1, by omega, by go_num, fun j hj => ?_, hI'⟩
          by_cases e : j = k
          · rw [e]; exact hp'
          · exact HL.out j (by omega)
        case measure => simp [intOf]; omega
    · go_wp2_with fail
      go_ret
      exact ⟨ret_int (ixOf_none fun j hj => HL.out j (by omega)).symm, hI⟩

set_option maxHeartbeats 400000 in
theorem cfK_any (I : World → Prop) (A : Option Addr) (b off n c f : Nat) (cp : Array Value) (g0 g1 g2 g3 : Nat → Value) (p : Nat → Bool) (w : World) (hn : n ≤ 9223372036854775807)
    (hA : 0 < n → A = some ⟨b, off, none⟩) (he : Enters Tryz.prog f)
    (hc : ∀ W, I W → ∀ k, k < n → W.cell? ⟨b, off + k * 4, none⟩ = some (g0 k) ∧ W.cell? ⟨b, off + k * 4 + 1, none⟩ = some (g1 k) ∧ W.cell? ⟨b, off + k * 4 + 2, none⟩ = some (g2 k) ∧ W.cell? ⟨b, off + k * 4 + 3, none⟩ = some (g3 k))
    (hf : ∀ W, I W → ∀ k, k < n → Calls Tryz.prog f (#[.agg #[g0 k, g1 k, g2 k, g3 k]] ++ cp) W fun e W' => e = .returned (.bool (p k)) ∧ I W') (hw : I w) :
    Calls Tryz.prog 40 #[.slice A n c, .func (.func f) #[] cp] w fun e w' => e = .returned (.bool (anyOf p n)) ∧ I w' := by
  have H := Lib.hid (ixK_any I A b off n c f cp g0 g1 g2 g3 p w hn hA he hc hf hw)
  clear hc hf hA he hw
  go_enter Tryz.func40, Tryz.ntmps40
  go_wp2_with fail
  refine H.out.mono ?_
  rintro e W' ⟨rfl, hI'⟩
  go_wp2_with fail
  go_ret
  exact ⟨rfl, hI'⟩

theorem cfK_rd (A : Option Addr) (n c f : Nat) (cp : Array Value) (g0 g1 g2 g3 : Nat → Value) (p : Nat → Bool) (w : World) (hn : n ≤ 9223372036854775807)
    (hR : Rd w 4 (fun k => [g0 k, g1 k, g2 k, g3 k]) A n) (he : Enters Tryz.prog f)
    (hf : ∀ W, Below w.heap.size w W → ∀ k, k < n → Calls Tryz.prog f (#[.agg #[g0 k, g1 k, g2 k, g3 k]] ++ cp) W fun e W' => e = .returned (.bool (p k)) ∧ Below w.heap.size w W') :
    Calls Tryz.prog 40 #[.slice A n c, .func (.func f) #[] cp] w fun e w' => e = .returned (.bool (anyOf p n)) ∧ Below w.heap.size w w' := by
  by_cases h0 : 0 < n
  · obtain ⟨b, off, hA, hb, hc⟩ := hR h0
    refine cfK_any (fun W => Below w.heap.size w W) A b off n c f cp g0 g1 g2 g3 p w hn (fun _ => hA) he (fun W hW k hk => ?_) hf (Below.refl _ _)
    have hcell : ∀ o, W.cell? ⟨b, o, none⟩ = w.cell? ⟨b, o, none⟩ := fun o => hW.cell (p := ⟨b, o, none⟩) hb
    simp only [hcell]
    exact ⟨by simpa using hc k hk 0 _ rfl, by simpa using hc k hk 1 _ rfl, by simpa using hc k hk 2 _ rfl, by simpa using hc k hk 3 _ rfl⟩
  · exact cfK_any (fun W => Below w.heap.size w W) A 0 0 n c f cp g0 g1 g2 g3 p w hn (fun h => absurd h h0) he (fun W hW k hk => by omega) hf (Below.refl _ _)

set_option maxHeartbeats 400000 in
theorem k1_any (r id : Int) (a d : Bool) (A : Option Addr) (n c b : Nat) (w : World) (hb : b < w.heap.size) (hc : w.cell? ⟨b, 0, none⟩ = some (.int .i64 id)) :
    Calls Tryz.prog 41 #[.agg #[.int .i64 r, .bool a, .bool d, .slice A n c], .pointer (some ⟨b, 0, none⟩)] w fun e w' => e = .returned (.bool (r == id)) ∧ Below w.heap.size w w' := by
  go_enter Tryz.func41, Tryz.ntmps41
  go_wp2_with fail
  go_ret
  exact ⟨rfl, (Below.refl _ _).alloc (Nat.le_refl _) _⟩
theorem k1_enters : Enters Tryz.prog 41 := fun _ _ => by kernel_rfl
theorem KnRow.rd {w : World} {base n c : Nat} {A : Option Addr} {K : Nat → KnS} {V : Nat → Value} (h : KnRow w base (.slice A n c) n K V) : Rd w 4 (fun i => knC K V i) A n := by
  obtain ⟨A', c', hv, _⟩ := own_any h.row
  injection hv with h1 h2 h3
  subst h1 h3
  exact Rd.of_own (fun _ => rfl) (c := c) (base := base) (e := 89) h.row
theorem hasK_any {w : World} {base n c : Nat} {A : Option Addr} {K : Nat → KnS} {V : Nat → Value} (h : KnRow w base (.slice A n c) n K V) (hn : n ≤ 9223372036854775807) (id : Int) (b : Nat) (hb : b < w.heap.size) (hc : w.cell? ⟨b, 0, none⟩ = some (.int .i64 id)) :
    Calls Tryz.prog 40 #[.slice A n c, .func (.func 41) #[] #[.pointer (some ⟨b, 0, none⟩)]] w fun e w' => e = .returned (.bool (anyOf (fun i => (K i).ref == id) n)) ∧ Below w.heap.size w w' :=
  cfK_rd A n c 41 #[.pointer (some ⟨b, 0, none⟩)] (fun i => .int .i64 (K i).ref) (fun i => .bool (K i).awake) (fun _ => .bool false) V (fun i => (K i).ref == id) w hn h.rd k1_enters
    fun W hW k hk => by
      obtain ⟨Av, cv, hv, -, -, -⟩ := own_any (h.each k hk)
      rw [hv]
      exact (k1_any (K k).ref id (K k).awake false Av _ cv b W (by have := hW.size; omega) ((hW.cell (p := ⟨_, _, none⟩) hb).trans hc)).mono fun e W' ⟨he, hb'⟩ => ⟨he, hW.trans (hb'.mono hW.size)⟩
section
variable {w w' : World} {X1 M1 X2 M2 : Nat → Prop} {base T1 T2 p1 p2 : Nat} {P1 P2 : Int → Nat} {N1 N2 : NdS}
/-- both may write into what was made meanwhile -/
theorem Two.xw (h : Two w base T1 T2 p1 p2 P1 P2 X1 M1 X2 M2 N1 N2) (hf : Fr (fun _ => False) w w') : Two w' base T1 T2 p1 p2 P1 P2 (XW X1 w w') M1 (XW X2 w w') M2 N1 N2 :=
  ⟨h.n1.xw hf, h.n2.xw hf, ⟨fun k hk => ⟨.inl (h.a12.sub k hk).1, (h.a12.sub k hk).2⟩, h.a12.dis⟩, ⟨fun k hk => ⟨.inl (h.a21.sub k hk).1, (h.a21.sub k hk).2⟩, h.a21.dis⟩, Nat.le_trans h.hb hf.size⟩
/-- somebody else writes into block q -/
theorem Two.own (h : Two w base T1 T2 p1 p2 P1 P2 X1 M1 X2 M2 N1 N2) {q : Nat} (hf : Fr (fun k => k = q) w w') (h1 : X1 q) (h2 : X2 q) (hb : base ≤ q) (hm1 : ¬ M1 q) (hm2 : ¬ M2 q) : Two w' base T1 T2 p1 p2 P1 P2 X1 M1 X2 M2 N1 N2 :=
  ⟨h.n1.fr hf (fun k hk => by rw [hk]; exact ⟨h1, hb⟩) (fun _ h => h) (fun _ h => .inl h) (fun k hk e => hm1 (e ▸ hk)), h.n2.fr hf (fun k hk => by rw [hk]; exact ⟨h2, hb⟩) (fun _ h => h) (fun _ h => .inl h) (fun k hk e => hm2 (e ▸ hk)), h.a12, h.a21, Nat.le_trans h.hb hf.size⟩
end
end Go.Proofs.YtjjfglbcikaicaaGreat
namespace Go.Proofs.YtjjfglbcikaicaaGreat
open Go.RowKit
set_option linter.unusedVariables false
set_option linter.unusedSimpArgs false
/-- steps that ask for oneself or for whom one spawned -/
def TameS (l : List Stp) : Prop := ∀ s, s ∈ l → (s.kind = 2 ∨ s.kind = 4 ∨ s.kind = 5) → s.a = 0 ∨ s.a = -1
def RunnOk (l : List Stp) (r : RunS) : Prop := (r.over = true → r.lk = 8 ∨ r.lk = 9) ∧ (r.waiting = true → r.lk = 7 ∧ r.pos < l.length ∧ (nthS l r.pos).kind = 6)
def Asks (r : RunS) (o : OutS) : Prop := (o.kind = 3 ∨ o.kind = 5 ∨ o.kind = 6) → o.num = r.self ∨ o.num = r.kid
theorem nthS_in {l : List Stp} {k : Nat} (h : k < l.length) : nthS l k ∈ l := by
  unfold nthS
  rw [List.getD_eq_getElem?_getD, List.getElem?_eq_getElem h]
  exact List.getElem_mem _
theorem lit_no {a : Int} (h3 : a ≠ 3) (h5 : a ≠ 5) (h6 : a ≠ 6) {P : Prop} : (a = 3 ∨ a = 5 ∨ a = 6) → P := fun e => by
  rcases e with e | e | e
  · exact absurd e h3
  · exact absurd e h5
  · exact absurd e h6
/-- what a run leaves of a runner -/
structure RunGo (l : List Stp) (r : RunS) (p : RunS × OutS) : Prop where
  asks : Asks r p.2
  ok : RunnOk l p.1
  kid : p.1.kid = r.kid
  self : p.1.self = r.self
  wt : p.2.kind = 7 → p.1.waiting = true
theorem stepR_tame {l : List Stp} {r : RunS} (h : TameS l) (ho : r.over = false) (hw : r.waiting = false) : RunGo l r (stepR l r) := by
  have hno : ∀ r' : RunS, r'.over = false → r'.waiting = false → RunnOk l r' := fun r' e1 e2 => ⟨fun e => (by rw [e1] at e; cases e), fun e => (by rw [e2] at e; cases e)⟩
  have hov : ∀ r' : RunS, r'.lk = 8 ∨ r'.lk = 9 → r'.waiting = false → RunnOk l r' := fun r' e1 e2 => ⟨fun _ => e1, fun e => by rw [e2] at e; cases e⟩
  unfold stepR
  split
  · exact ⟨lit_no (a := 8) (by decide) (by decide) (by decide), hov _ (.inl rfl) hw, rfl, rfl, fun e => by cases e⟩
  · rename_i hl
    have hm : nthS l r.pos ∈ l := nthS_in (by omega)
    have hpos : r.pos < l.length := by omega
    have hks : (nthS l r.pos).kind = (nthS l r.pos).kind := rfl
    dsimp only
    generalize hs : nthS l r.pos = s at *
    have href : s.kind = 2 ∨ s.kind = 4 ∨ s.kind = 5 → refR r s.a = r.self ∨ refR r s.a = r.kid := fun hk => by
      unfold refR
      rcases h s hm hk with e | e
      · rw [if_pos e]; exact .inl rfl
      · rw [if_neg (by omega), if_pos e]; exact .inr rfl
    split
    · exact ⟨lit_no (a := 2) (by decide) (by decide) (by decide), hno _ ho hw, rfl, rfl, fun e => by cases e⟩
    split
    · rename_i e; exact ⟨fun _ => href (.inl e), hno _ ho hw, rfl, rfl, fun e => by cases e⟩
    split
    · exact ⟨lit_no (a := 4) (by decide) (by decide) (by decide), hno _ ho hw, rfl, rfl, fun e => by cases e⟩
    split
    · rename_i e; exact ⟨fun _ => href (.inr (.inl e)), hno _ ho hw, rfl, rfl, fun e => by cases e⟩
    split
    · rename_i e; exact ⟨fun _ => href (.inr (.inr e)), hno _ ho hw, rfl, rfl, fun e => by cases e⟩
    split
    · rename_i e6
      exact ⟨lit_no (a := 7) (by decide) (by decide) (by decide), ⟨fun e => (by rw [show r.over = true from e] at ho; cases ho), fun _ => ⟨rfl, hpos, (by show (nthS l r.pos).kind = 6; rw [hs]; exact e6)⟩⟩, rfl, rfl, fun _ => rfl⟩
    split
    · exact ⟨lit_no (a := 8) (by decide) (by decide) (by decide), hov _ (.inl rfl) hw, rfl, rfl, fun e => by cases e⟩
    split
    · exact ⟨lit_no (a := 9) (by decide) (by decide) (by decide), hov _ (.inr rfl) hw, rfl, rfl, fun e => by cases e⟩
    split
    · exact ⟨lit_no (a := 1) (by decide) (by decide) (by decide), hno _ ho hw, rfl, rfl, fun e => by cases e⟩
    · exact ⟨lit_no (a := 1) (by decide) (by decide) (by decide), hno _ ho hw, rfl, rfl, fun e => by cases e⟩
theorem runR_tame {l : List Stp} (h : TameS l) : ∀ (f : Nat) {r : RunS}, RunnOk l r → RunGo l r (runR l f r)
  | 0, r, hk => ⟨lit_no (a := 1) (by decide) (by decide) (by decide), hk, rfl, rfl, fun e => by cases e⟩
  | f + 1, r, hk => by
    unfold runR
    split
    · rename_i e
      rw [Bool.or_eq_true] at e
      have h789 : r.lk = 7 ∨ r.lk = 8 ∨ r.lk = 9 := by
        rcases e with e | e
        · exact .inr (hk.1 e)
        · exact .inl (hk.2 e).1
      refine ⟨fun e3 => ?_, hk, rfl, rfl, fun e7 => ?_⟩
      · have e3 : r.lk = 3 ∨ r.lk = 5 ∨ r.lk = 6 := e3
        omega
      · have e7 : r.lk = 7 := e7
        rcases e with e | e
        · have := hk.1 e; omega
        · exact e
    rename_i e
    have e : ¬ (r.over || r.waiting) = true := e
    rw [Bool.or_eq_true, not_or] at e
    split
    · exact ⟨lit_no (a := 1) (by decide) (by decide) (by decide), hk, rfl, rfl, fun e => by cases e⟩
    have g := stepR_tame h (by simpa using e.1) (by simpa using e.2)
    split
    · have k := runR_tame h f g.ok
      refine ⟨fun e => ?_, k.ok, k.kid.trans g.kid, k.self.trans g.self, k.wt⟩
      rw [← g.kid, ← g.self]
      exact k.asks e
    · exact g
theorem runD_out (f : Nat) (d : DiaS) : (runD f d).2 = (runR d.l f d.r).2 ∧ (runD f d).1.r = (runR d.l f d.r).1 ∧ (runD f d).1.l = d.l ∧ (runD f d).1.nm = d.nm := by
  unfold runD
  dsimp only
  split <;> exact ⟨rfl, rfl, rfl, rfl⟩
/-- one who knows none that are gone -/
structure Liv (G : Int → Bool) (scr : List (List Stp)) (a : ActS) : Prop where
  kid : G a.d.r.kid = false
  kn : a.d.r.kid = 0 ∨ a.knows a.d.r.kid = true
  self : a.d.r.self = a.ref
  tame : TameS a.d.l
  mkn : makeN scr a.d.nm = some a.d.l
  k0 : 0 ≤ a.d.r.kid
  lk : RunnOk a.d.l a.d.r
  w : a.waits = true → a.d.r.waiting = true
section
variable {G : Int → Bool} {scr : List (List Stp)}
theorem Liv.put {a : ActS} (h : Liv G scr a) (x : LT) : Liv G scr (putBox a x) := by
  unfold putBox
  split
  · exact h
  · exact ⟨h.kid, h.kn, h.self, h.tame, h.mkn, h.k0, h.lk, h.w⟩
/-- what offers and ends of waits leave of a diary -/
structure OfD (d d' : DiaS) : Prop where
  l : d'.l = d.l
  nm : d'.nm = d.nm
  kid : d'.r.kid = d.r.kid
  self : d'.r.self = d.r.self
  ok : RunnOk d.l d.r → RunnOk d.l d'.r
theorem offerD_of (d : DiaS) (v : VT) : OfD d (offerD d v).1 := by
  unfold offerD
  split
  · dsimp only
    split
    · unfold offerR
      split
      · split
        · exact ⟨rfl, rfl, rfl, rfl, fun h => ⟨h.1, fun e => by cases e⟩⟩
        · exact ⟨rfl, rfl, rfl, rfl, id⟩
      · exact ⟨rfl, rfl, rfl, rfl, id⟩
    · exact ⟨rfl, rfl, rfl, rfl, id⟩
  · exact ⟨rfl, rfl, rfl, rfl, id⟩
theorem lateD_of (d : DiaS) : OfD d (lateD d) := by
  unfold lateD
  split
  · unfold lateR
    split
    · exact ⟨rfl, rfl, rfl, rfl, fun h => ⟨h.1, fun e => by cases e⟩⟩
    · exact ⟨rfl, rfl, rfl, rfl, id⟩
  · exact ⟨rfl, rfl, rfl, rfl, id⟩
theorem Liv.same {a : ActS} (h : Liv G scr a) {d : DiaS} (hd : OfD a.d d) {box : List LT} {pos : Nat} {kn : Int → Bool} (hk : ∀ x, a.knows x = true → kn x = true) : Liv G scr { a with d := d, box := box, pos := pos, waits := false, knows := kn } :=
  ⟨by show G d.r.kid = false; rw [hd.kid]; exact h.kid, by
    show d.r.kid = 0 ∨ kn d.r.kid = true
    rw [hd.kid]
    exact h.kn.imp id (hk _), by show d.r.self = a.ref; rw [hd.self]; exact h.self, by show TameS d.l; rw [hd.l]; exact h.tame, by show makeN scr d.nm = some d.l; rw [hd.l, hd.nm]; exact h.mkn, by show 0 ≤ d.r.kid; rw [hd.kid]; exact h.k0, by show RunnOk d.l d.r; rw [hd.l]; exact hd.ok h.lk, fun e => by cases e⟩
theorem Liv.wake {a : ActS} (h : Liv G scr a) : Liv G scr (wakeA a).1 := by
  unfold wakeA
  split
  · rename_i i hi
    exact h.same (offerD_of _ _) (fun x hx => by rw [hx]; rfl)
  · split
    · exact h.same (lateD_of _) (fun x hx => hx)
    · exact ⟨h.kid, h.kn, h.self, h.tame, h.mkn, h.k0, h.lk, h.w⟩
theorem Liv.go {a : ActS} (h : Liv G scr a) : Liv G scr (goA a).1 := by
  unfold goA
  split
  · exact h.wake
  · exact h
theorem goA_rf (a : ActS) : (goA a).1.ref = a.ref := by
  unfold goA
  split
  · unfold wakeA
    split
    · rfl
    · split <;> rfl
  · rfl
theorem Liv.ran {a : ActS} (h : Liv G scr a) (hw : a.waits = false) (f : Nat) : Liv G scr { a with d := (runD f a.d).1 } ∧ ((runD f a.d).2.kind = 3 ∨ (runD f a.d).2.kind = 5 ∨ (runD f a.d).2.kind = 6 → (runD f a.d).2.num = a.ref ∨ G (runD f a.d).2.num = false) ∧ ((runD f a.d).2.kind = 7 → (runD f a.d).1.r.waiting = true) := by
  obtain ⟨e1, e2, e3, e4⟩ := runD_out f a.d
  have g := runR_tame h.tame f h.lk
  refine ⟨⟨?_, ?_, ?_, ?_, ?_, ?_, ?_, ?_⟩, fun e => ?_, fun e => ?_⟩
  · show G (runD f a.d).1.r.kid = false
    rw [e2, g.kid]; exact h.kid
  · show (runD f a.d).1.r.kid = 0 ∨ a.knows (runD f a.d).1.r.kid = true
    rw [e2, g.kid]; exact h.kn
  · show (runD f a.d).1.r.self = a.ref
    rw [e2, g.self]; exact h.self
  · show TameS (runD f a.d).1.l
    rw [e3]; exact h.tame
  · show makeN scr (runD f a.d).1.nm = some (runD f a.d).1.l
    rw [e3, e4]; exact h.mkn
  · show 0 ≤ (runD f a.d).1.r.kid
    rw [e2, g.kid]; exact h.k0
  · show RunnOk (runD f a.d).1.l (runD f a.d).1.r
    rw [e2, e3]; exact g.ok
  · intro e
    have e : a.waits = true := e
    rw [hw] at e; cases e
  · rw [e1] at e ⊢
    rcases g.asks e with e | e
    · exact .inl (e.trans h.self)
    · right
      rw [e]; exact h.kid
  · rw [e2]
    rw [e1] at e
    exact g.wt e
theorem Liv.wait {a : ActS} (h : Liv G scr a) (hw : a.d.r.waiting = true) (n : Int) : Liv G scr (waitA a n) := ⟨h.kid, .inr (by unfold waitA; simp), h.self, h.tame, h.mkn, h.k0, h.lk, fun _ => hw⟩
theorem Liv.give {a : ActS} (h : Liv G scr a) {x : Int} (hx : G x = false) (hx0 : 0 ≤ x) : Liv G scr (giveA a x) := by
  have key : (giveD a.d x).l = a.d.l ∧ (giveD a.d x).nm = a.d.nm ∧ ((giveD a.d x).r.kid = a.d.r.kid ∨ (giveD a.d x).r.kid = x) ∧ (giveD a.d x).r.self = a.d.r.self ∧ RunnOk a.d.l (giveD a.d x).r ∧ (giveD a.d x).r.waiting = a.d.r.waiting := by
    unfold giveD
    split
    · unfold giveR
      split
      · exact ⟨rfl, rfl, .inr rfl, rfl, h.lk, rfl⟩
      · exact ⟨rfl, rfl, .inl rfl, rfl, h.lk, rfl⟩
    · exact ⟨rfl, rfl, .inl rfl, rfl, h.lk, rfl⟩
  obtain ⟨k1, kn, k2, k3, k4, k5⟩ := key
  refine ⟨?_, ?_, ?_, ?_, ?_, ?_, ?_, ?_⟩
  · show G (giveD a.d x).r.kid = false
    rcases k2 with e | e <;> rw [e]
    · exact h.kid
    · exact hx
  · show (giveD a.d x).r.kid = 0 ∨ (a.knows (giveD a.d x).r.kid || (giveD a.d x).r.kid == x) = true
    rcases k2 with e | e
    · rw [e]
      rcases h.kn with e0 | e0
      · exact .inl e0
      · right; rw [e0]; rfl
    · right
      rw [e]
      simp
  · show (giveD a.d x).r.self = a.ref
    rw [k3]; exact h.self
  · show TameS (giveD a.d x).l
    rw [k1]; exact h.tame
  · show makeN scr (giveD a.d x).nm = some (giveD a.d x).l
    rw [k1, kn]; exact h.mkn
  · show 0 ≤ (giveD a.d x).r.kid
    rcases k2 with e | e <;> rw [e]
    · exact h.k0
    · exact hx0
  · show RunnOk (giveD a.d x).l (giveD a.d x).r
    rw [k1]; exact k4
  · intro e
    show (giveD a.d x).r.waiting = true
    rw [k5]
    exact h.w e
end
/-- M is N without those of G, who wait for ever -/
structure Sim (G : Int → Bool) (c : Nat) (N M : NdS) : Prop where
  id : M.id = N.id
  fuel : M.fuel = N.fuel
  scr : M.scr = N.scr
  homes : M.homes = N.homes
  spawned : M.spawned = N.spawned
  last : M.last = N.last
  out : M.out = N.out
  said : M.said = N.said
  acts : M.acts = N.acts.filter fun a => !G a.ref
  rows : M.rows = N.rows.filter fun r => !G r.ref
  ra : N.rows.map (·.ref) = N.acts.map (·.ref)
  srt : N.acts.Pairwise fun a b => a.ref < b.ref
  dead : ∀ a, a ∈ N.acts → G a.ref = true → a.waits = true ∧ a.ticks < 0 ∧ a.box = []
  liv : ∀ a, a ∈ N.acts → G a.ref = false → Liv G N.scr a
  lrow : ∀ r, r ∈ N.rows → G r.ref = false → (∀ x, x ∈ r.ws → G x = false) ∧ ∀ x, x ∈ r.ls → G x = false
  tame : ∀ l, l ∈ N.scr → TameS l
  id1 : 1 ≤ N.id
  gb : ∀ x, G x = true → 1 ≤ x ∧ x ≤ N.id * 1000 + (N.spawned : Int)
  len : N.acts.length ≤ c
theorem filter_mapR {α : Type} {p : α → Bool} {f : α → α} (h : ∀ a, p (f a) = p a) (l : List α) : (l.map f).filter p = (l.filter p).map f := by
  rw [List.filter_map]
  congr 2
  funext a
  exact h a
theorem find_filterR {α : Type} {p q : α → Bool} (l : List α) (h : ∀ a, q a = true → p a = true) : (l.filter p).find? q = l.find? q := by
  rw [List.find?_filter]
  congr 1
  funext a
  rcases hq : q a with _ | _
  · simp
  · simp [h a hq]
section
variable {G : Int → Bool} {c : Nat} {N M : NdS}
theorem Sim.up (h : Sim G c N M) {c' : Nat} (hc : c ≤ c') : Sim G c' N M := { h with len := Nat.le_trans h.len hc }
theorem Sim.find (h : Sim G c N M) {r : Int} (hr : G r = false) : M.find r = N.find r := by
  unfold NdS.find
  rw [h.acts]
  refine find_filterR _ (fun a ha => ?_)
  have e : a.ref = r := by simpa using ha
  rw [e, hr]
  rfl
theorem Sim.has (h : Sim G c N M) {r : Int} (hr : G r = false) : M.has r = N.has r := by
  unfold NdS.has
  rw [h.find hr]
theorem Sim.row (h : Sim G c N M) {r : Int} (hr : G r = false) : rowL M.rows r = rowL N.rows r := by
  unfold rowL
  rw [h.rows]
  refine find_filterR _ (fun a ha => ?_)
  have e : a.ref = r := by simpa using ha
  rw [e, hr]
  rfl
theorem Sim.setA (h : Sim G c N M) {a : ActS} (hr : G a.ref = false) (hl : Liv G N.scr a) : Sim G c (N.setA a) (M.setA a) := by
  refine { h with acts := ?_, ra := ?_, srt := ?_, dead := ?_, liv := ?_, len := ?_ }
  · show M.acts.map _ = (N.acts.map _).filter _
    rw [h.acts]
    refine (filter_mapR (fun b => ?_) _).symm
    split
    · rename_i e
      have e : b.ref = a.ref := by simpa using e
      rw [e]
    · rfl
  · show N.rows.map (·.ref) = (N.setA a).acts.map (·.ref)
    rw [refs_setA]
    exact h.ra
  · exact srt_refs (refs_setA a) h.srt
  · intro b hb hg
    rcases mem_setA.1 hb with ⟨_, _, _, rfl⟩ | ⟨hb, _⟩
    · rw [hr] at hg; cases hg
    · exact h.dead b hb hg
  · intro b hb hg
    rcases mem_setA.1 hb with ⟨_, _, _, rfl⟩ | ⟨hb, _⟩
    · exact hl
    · exact h.liv b hb hg
  · rw [len_setA]; exact h.len
theorem Sim.mapRows (h : Sim G c N M) (f : Li.LR → Li.LR) (hf : ∀ r, (f r).ref = r.ref) (hl : ∀ r, G r.ref = false → (∀ x, x ∈ r.ws → G x = false) ∧ (∀ x, x ∈ r.ls → G x = false) → (∀ x, x ∈ (f r).ws → G x = false) ∧ ∀ x, x ∈ (f r).ls → G x = false) :
    Sim G c { N with rows := N.rows.map f } { M with rows := M.rows.map f } := by
  refine { h with rows := ?_, ra := ?_, lrow := ?_ }
  · show M.rows.map f = (N.rows.map f).filter _
    rw [h.rows]
    exact (filter_mapR (fun r => by rw [hf r]) _).symm
  · show (N.rows.map f).map (·.ref) = N.acts.map (·.ref)
    rw [List.map_map, ← h.ra]
    exact List.map_congr_left (fun r _ => hf r)
  · intro r hr hg
    obtain ⟨r0, hr0, rfl⟩ := List.mem_map.1 hr
    rw [hf r0] at hg
    exact hl r0 hg (h.lrow r0 hr0 hg)
theorem mem_snoc {y : Int} {l : List Int} {P : Int → Prop} (h : ∀ x, x ∈ l → P x) (hy : P y) : ∀ x, x ∈ l ++ [y] → P x := fun x hx => by
  rcases List.mem_append.1 hx with hx | hx
  · exact h x hx
  · rw [List.mem_singleton.1 hx]; exact hy
theorem Sim.watch (h : Sim G c N M) {x ref : Int} (hx : G x = false) : Sim G c { N with rows := watchL N.rows x ref } { M with rows := watchL M.rows x ref } := by
  refine h.mapRows _ (fun r => ?_) (fun r hg hl => ?_)
  · split <;> rfl
  · split
    · exact ⟨mem_snoc (P := fun x => G x = false) hl.1 hx, hl.2⟩
    · exact hl
theorem Sim.link (h : Sim G c N M) {x ref : Int} (hx : G x = false) : Sim G c { N with rows := linkL N.rows ref x } { M with rows := linkL M.rows ref x } := by
  refine h.mapRows _ (fun r => ?_) (fun r hg hl => ?_)
  · split <;> rfl
  · split
    · exact ⟨hl.1, mem_snoc (P := fun x => G x = false) hl.2 hx⟩
    · exact hl
theorem Sim.addOut (h : Sim G c N M) (l : List LT) : Sim G c { N with out := N.out ++ l } { M with out := M.out ++ l } := { h with out := by show M.out ++ l = N.out ++ l; rw [h.out] }
theorem Sim.addSaid (h : Sim G c N M) (l : List (Int × Int)) : Sim G c { N with said := N.said ++ l } { M with said := M.said ++ l } := { h with said := by show M.said ++ l = N.said ++ l; rw [h.said] }
theorem map_filterR {α : Type} (f : α → Int) (q : Int → Bool) (l : List α) : (l.filter fun a => q (f a)).map f = (l.map f).filter q := by
  rw [List.filter_map]
  rfl
theorem Sim.del (h : Sim G c N M) {ref : Int} (hr : G ref = false) : Sim G c { N.delA ref with rows := goneL N.rows ref } { M.delA ref with rows := goneL M.rows ref } := by
  refine { h with acts := ?_, rows := ?_, ra := ?_, srt := ?_, dead := ?_, liv := ?_, lrow := ?_, len := ?_ }
  · show M.acts.filter _ = (N.acts.filter _).filter _
    rw [h.acts, List.filter_filter, List.filter_filter]
    congr 1
    funext a
    exact Bool.and_comm _ _
  · show M.rows.filter _ = (N.rows.filter _).filter _
    rw [h.rows, List.filter_filter, List.filter_filter]
    congr 1
    funext a
    exact Bool.and_comm _ _
  · show (N.rows.filter _).map (·.ref) = (N.acts.filter _).map (·.ref)
    rw [map_filterR (fun r : Li.LR => r.ref) (fun x => !(x == ref)), map_filterR (fun a : ActS => a.ref) (fun x => !(x == ref)), h.ra]
  · exact h.srt.filter _
  · exact fun a ha => h.dead a (mem_delA.1 ha).1
  · exact fun a ha => h.liv a (mem_delA.1 ha).1
  · exact fun r hr' => h.lrow r (List.mem_filter.1 hr').1
  · exact Nat.le_trans (List.length_filter_le _ _) h.len
/-- how one is removed, on both -/
def RemSim (G : Int → Bool) (rem : NdS → Int → ByteArray → NdS) : Prop := ∀ c N M r t, Sim G c N M → G r = false → Sim G c (rem N r t) (rem M r t)
variable {rem : NdS → Int → ByteArray → NdS}
theorem Sim.dlv (hr : RemSim G rem) (h : Sim G c N M) {x : LT} (ht : G x.to = false) (hf : G x.frm = false) : Sim G c (deliverW rem N x) (deliverW rem M x) := by
  unfold deliverW
  split
  · rw [h.find ht]
    rcases ha : N.find x.to with _ | a
    · exact h
    · obtain ⟨hm, e⟩ := find_some ha
      have e2 : (putBox a x).ref = x.to := by
        unfold putBox
        split <;> exact e
      exact h.setA (by rw [e2]; exact ht) ((h.liv a hm (by rw [e]; exact ht)).put x)
  split
  · exact h.watch hf
  split
  · exact h.link hf
  split
  · have e : linkedL M.rows x.to x.frm = linkedL N.rows x.to x.frm := by
      unfold linkedL
      rw [h.row ht]
    rw [e]
    split
    · exact hr _ _ _ _ _ h ht
    · exact h
  · exact h
theorem Sim.loc (h : Sim G c N M) (r : Int) : locN M r = locN N r := by
  unfold locN
  rw [h.homes, h.id]
theorem Sim.snd1 (hr : RemSim G rem) (h : Sim G c N M) {x : LT} (ht : G x.to = false) (hf : G x.frm = false) : Sim G c (send1W rem N x) (send1W rem M x) := by
  unfold send1W
  rw [h.has ht]
  split
  · exact h.dlv hr ht hf
  · by_cases hc : locN N x.to ≠ N.id
    · rw [if_pos hc, if_pos (by rw [h.loc, h.id]; exact hc)]
      exact h.addOut _
    · rw [if_neg hc, if_neg (by rw [h.loc, h.id]; exact hc)]
      exact h
theorem Sim.rpl (hr : RemSim G rem) (h : Sim G c N M) {x : LT} (ht : G x.to = false) (hf : G x.frm = false) : Sim G c (replyW rem N x) (replyW rem M x) := by
  unfold replyW
  rcases hy : noneL x with _ | y
  · exact h
  · have e : y.to = x.frm ∧ y.frm = x.to := by
      unfold noneL at hy
      split at hy
      · cases hy; exact ⟨rfl, rfl⟩
      · split at hy
        · cases hy; exact ⟨rfl, rfl⟩
        · cases hy
    exact h.snd1 hr (by rw [e.1]; exact hf) (by rw [e.2]; exact ht)
theorem Sim.snd (hr : RemSim G rem) (h : Sim G c N M) {x : LT} (ht : G x.to = false) (hf : G x.frm = false) : Sim G c (sendW rem N x) (sendW rem M x) := by
  unfold sendW
  rw [h.has ht]
  split
  · exact h.dlv hr ht hf
  · by_cases hc : locN N x.to ≠ N.id
    · rw [if_pos hc, if_pos (by rw [h.loc, h.id]; exact hc)]
      exact h.addOut _
    · rw [if_neg hc, if_neg (by rw [h.loc, h.id]; exact hc)]
      exact h.rpl hr ht hf
theorem Sim.fold (hr : RemSim G rem) : ∀ (l : List LT) {N M : NdS}, Sim G c N M → (∀ x, x ∈ l → G x.to = false ∧ G x.frm = false) → Sim G c (l.foldl (sendW rem) N) (l.foldl (sendW rem) M)
  | [], N, M, h, _ => h
  | x :: l, N, M, h, hl => Sim.fold hr l (h.snd hr (hl x (by simp)).1 (hl x (by simp)).2) (fun y hy => hl y (by simp [hy]))
end
theorem remN_sim (G : Int → Bool) : ∀ (k c : Nat) (N M : NdS) (ref : Int) (failed : Bool) (text : ByteArray), Sim G c N M → G ref = false → Sim G c (remN k N ref failed text) (remN k M ref failed text)
  | 0, c, N, M, _, _, _, h, _ => h
  | k + 1, c, N, M, ref, failed, text, h, hr => by
    unfold remN
    have e : tellL M.rows ref failed text = tellL N.rows ref failed text := by
      unfold tellL
      rw [h.row hr]
    rw [e]
    refine Sim.fold (fun c N M r t h hr => remN_sim G k c N M r true t h hr) _ (h.del hr) (fun x hx => ?_)
    unfold tellL at hx
    rcases hrow : rowL N.rows ref with _ | r
    · rw [hrow] at hx; cases hx
    · rw [hrow] at hx
      have hm : r ∈ N.rows := by
        unfold rowL at hrow
        exact List.mem_of_find?_eq_some hrow
      have e : r.ref = ref := by
        unfold rowL at hrow
        simpa using List.find?_some hrow
      obtain ⟨hw, hl⟩ := h.lrow r hm (by rw [e]; exact hr)
      rcases List.mem_append.1 hx with hx | hx
      · obtain ⟨y, hy, rfl⟩ := List.mem_map.1 hx
        exact ⟨hw y hy, hr⟩
      · split at hx
        · obtain ⟨y, hy, rfl⟩ := List.mem_map.1 hx
          exact ⟨hl y hy, hr⟩
        · cases hx
theorem rem60_sim (G : Int → Bool) : RemSim G fun M r t => remN 60 M r true t := fun c N M r t h hr => remN_sim G 60 c N M r true t h hr
def insI (x : Int) : List Int → List Int
  | [] => [x]
  | y :: l => if x < y then x :: y :: l else y :: insI x l
theorem refs_insA (a : ActS) : ∀ l : List ActS, (insA a l).map (·.ref) = insI a.ref (l.map (·.ref))
  | [] => rfl
  | b :: l => by
    unfold insA
    show _ = if a.ref < b.ref then _ else _
    split
    · rfl
    · show b.ref :: _ = b.ref :: _
      rw [refs_insA a l]
theorem refs_addL (ref : Int) : ∀ l : List Li.LR, (addL l ref).map (·.ref) = insI ref (l.map (·.ref))
  | [] => rfl
  | b :: l => by
    unfold addL
    show _ = if ref < b.ref then _ else _
    split
    · rfl
    · show b.ref :: _ = b.ref :: _
      rw [refs_addL ref l]
theorem filter_insA {p : ActS → Bool} {a : ActS} (hp : p a = true) : ∀ {l : List ActS}, l.Pairwise (fun a b => a.ref < b.ref) → (insA a l).filter p = insA a (l.filter p)
  | [], _ => by simp [insA, hp]
  | b :: l, hs => by
    have hs' := List.pairwise_cons.1 hs
    conv => lhs; unfold insA
    split
    · rename_i hlt
      rw [List.filter_cons, if_pos hp]
      have key : ∀ k : List ActS, (∀ d, d ∈ k → a.ref < d.ref) → a :: k = insA a k := fun k hk => by
        cases k with
        | nil => rfl
        | cons d k => unfold insA; rw [if_pos (hk d (by simp))]
      rw [key]
      intro d hd
      have hd := (List.mem_filter.1 hd).1
      rcases List.mem_cons.1 hd with rfl | hd
      · exact hlt
      · have := hs'.1 d hd; omega
    · rename_i hlt
      rw [List.filter_cons, List.filter_cons]
      split
      · rw [filter_insA hp hs'.2]
        conv => rhs; unfold insA
        rw [if_neg hlt]
      · exact filter_insA hp hs'.2
theorem filter_addL {p : Li.LR → Bool} {ref : Int} (hp : p ⟨ref, [], []⟩ = true) : ∀ {l : List Li.LR}, l.Pairwise (fun a b => a.ref < b.ref) → (addL l ref).filter p = addL (l.filter p) ref
  | [], _ => by simp [addL, hp]
  | b :: l, hs => by
    have hs' := List.pairwise_cons.1 hs
    conv => lhs; unfold addL
    split
    · rename_i hlt
      rw [List.filter_cons, if_pos hp]
      have key : ∀ k : List Li.LR, (∀ d, d ∈ k → ref < d.ref) → ⟨ref, [], []⟩ :: k = addL k ref := fun k hk => by
        cases k with
        | nil => rfl
        | cons d k => unfold addL; rw [if_pos (hk d (by simp))]
      rw [key]
      intro d hd
      have hd := (List.mem_filter.1 hd).1
      rcases List.mem_cons.1 hd with rfl | hd
      · exact hlt
      · have := hs'.1 d hd; omega
    · rename_i hlt
      rw [List.filter_cons, List.filter_cons]
      split
      · rw [filter_addL hp hs'.2]
        conv => rhs; unfold addL
        rw [if_neg hlt]
      · exact filter_addL hp hs'.2
theorem mem_addL' {ref : Int} {r : Li.LR} : ∀ {rows : List Li.LR}, r ∈ addL rows ref → r = ⟨ref, [], []⟩ ∨ r ∈ rows
  | [], h => by
    unfold addL at h
    exact .inl (List.mem_singleton.1 h)
  | b :: l, h => by
    unfold addL at h
    split at h
    · rcases List.mem_cons.1 h with h | h
      · exact .inl h
      · exact .inr h
    · rcases List.mem_cons.1 h with h | h
      · exact .inr (by simp [h])
      · rcases mem_addL' h with h | h
        · exact .inl h
        · exact .inr (by simp [h])
theorem makeN_mem {scr : List (List Stp)} {nm : ByteArray} {l : List Stp} (h : makeN scr nm = some l) : l ∈ scr := by
  unfold makeN at h
  split at h
  · split at h
    · cases h
    · exact List.mem_of_getElem? h
  · cases h
section
variable {G : Int → Bool} {c : Nat} {N M : NdS}
theorem Sim.spawn (h : Sim G c N M) (hc : c < 60 ∨ ∀ x, G x = false) (nm : ByteArray) : Sim G (c + 1) (spawnN N nm).1 (spawnN M nm).1 ∧ (spawnN M nm).2 = (spawnN N nm).2 ∧ G (spawnN N nm).2.1 = false ∧ 0 ≤ (spawnN N nm).2.1 ∧ (spawnN N nm).1.scr = N.scr := by
  have g0 : G 0 = false := by
    rcases hg : G 0 with _ | _
    · rfl
    · have := (h.gb 0 hg).1; omega
  unfold spawnN
  dsimp only
  rw [h.scr, h.id, h.spawned]
  rcases hmk : makeN N.scr nm with _ | l
  · exact ⟨h.up (Nat.le_succ _), rfl, g0, Int.le_refl _, rfl⟩
  dsimp only
  generalize href : N.id * 1000 + (N.spawned : Int) + 1 = ref
  have hgr : G ref = false := by
    rcases hg : G ref with _ | _
    · rfl
    · have := (h.gb ref hg).2; omega
  rw [h.has hgr]
  rcases hhas : N.has ref with _ | _
  rotate_left
  · exact ⟨h.up (Nat.le_succ _), rfl, g0, Int.le_refl _, rfl⟩
  rw [if_neg (show ¬ (false = true) by decide), if_neg (show ¬ (false = true) by decide)]
  have hcond : (60 ≤ M.acts.length ∨ 999 ≤ N.spawned) ↔ (60 ≤ N.acts.length ∨ 999 ≤ N.spawned) := by
    rcases hc with hc | hc
    · have h1 := h.len
      have h2 : M.acts.length ≤ N.acts.length := by rw [h.acts]; exact List.length_filter_le _ _
      omega
    · have : M.acts = N.acts := by
        rw [h.acts]
        exact List.filter_eq_self.2 (fun a _ => by rw [hc]; rfl)
      rw [this]
  by_cases hcd : 60 ≤ N.acts.length ∨ 999 ≤ N.spawned
  · rw [if_pos hcd, if_pos (hcond.2 hcd)]
    exact ⟨h.up (Nat.le_succ _), rfl, g0, Int.le_refl _, rfl⟩
  rw [if_neg hcd, if_neg (fun e => hcd (hcond.1 e))]
  have hrl : N.rows.length = N.acts.length := by
    have := congrArg List.length h.ra
    simpa using this
  have hnone : rowL N.rows ref = none := by
    rcases hrow : rowL N.rows ref with _ | r
    · rfl
    · exfalso
      unfold rowL at hrow
      have hm := List.mem_of_find?_eq_some hrow
      have e : r.ref = ref := by simpa using List.find?_some hrow
      have : ref ∈ N.acts.map (·.ref) := by
        rw [← h.ra, ← e]
        exact List.mem_map.2 ⟨r, hm, rfl⟩
      obtain ⟨a, ha, e2⟩ := List.mem_map.1 this
      have := has_iff.2 ⟨a, ha, e2⟩
      rw [hhas] at this
      cases this
  have hid := h.id1
  have haN : addR N.rows ref = addL N.rows ref := by
    unfold addR
    rw [hnone, if_neg]
    intro e
    rcases e with e | e | e
    · omega
    · cases e
    · omega
  have hml : M.rows.length ≤ N.rows.length := by rw [h.rows]; exact List.length_filter_le _ _
  have haM : addR M.rows ref = addL M.rows ref := by
    unfold addR
    rw [h.row hgr, hnone, if_neg]
    intro e
    rcases e with e | e | e
    · omega
    · cases e
    · omega
  have hrs : N.rows.Pairwise fun a b => a.ref < b.ref := by
    have h1 : (N.acts.map (·.ref)).Pairwise (· < ·) := List.pairwise_map.2 h.srt
    rw [← h.ra] at h1
    exact List.pairwise_map.1 h1
  have hne : ∀ b, b ∈ N.acts → b.ref ≠ ref := fun b hb e => by
    have := has_iff.2 ⟨b, hb, e⟩
    rw [hhas] at this
    cases this
  rw [haN, haM]
  refine ⟨?_, rfl, hgr, (by show 0 ≤ ref; omega), rfl⟩
  refine { h with spawned := ?_, acts := ?_, rows := ?_, ra := ?_, srt := ?_, dead := ?_, liv := ?_, lrow := ?_, gb := ?_, len := ?_, id := ?_, scr := ?_ }
  · rfl
  · rfl
  · rfl
  · show insA _ M.acts = (insA _ N.acts).filter _
    rw [h.acts, filter_insA (by show (!G ref) = true; rw [hgr]; rfl) h.srt]
  · show addL M.rows ref = (addL N.rows ref).filter _
    rw [h.rows, filter_addL (by show (!G ref) = true; rw [hgr]; rfl) hrs]
  · show (addL N.rows ref).map (·.ref) = (insA _ N.acts).map (·.ref)
    rw [refs_insA, refs_addL, h.ra]
  · exact srt_insA h.srt hne
  · intro b hb hg
    rcases mem_insA.1 hb with rfl | hb
    · rw [show G ref = true from hg] at hgr; cases hgr
    · exact h.dead b hb hg
  · intro b hb hg
    rcases mem_insA.1 hb with rfl | hb
    · exact ⟨g0, .inl rfl, rfl, h.tame l (makeN_mem hmk), hmk, Int.le_refl _, ⟨fun e => (by cases e), fun e => (by cases e)⟩, fun e => (by cases e)⟩
    · exact h.liv b hb hg
  · intro r hr hg
    rcases mem_addL' hr with rfl | hr
    · exact ⟨fun x hx => (by cases hx), fun x hx => (by cases hx)⟩
    · exact h.lrow r hr hg
  · intro x hx
    have := h.gb x hx
    refine ⟨this.1, ?_⟩
    show x ≤ N.id * 1000 + ((N.spawned + 1 : Nat) : Int)
    omega
  · show (insA _ N.acts).length ≤ c + 1
    rw [len_insA]
    have := h.len
    omega
theorem Sim.arm (h : Sim G c N M) (hc : c < 60 ∨ ∀ x, G x = false) {r : Int} {a : ActS} {o : OutS} (hr : G r = false) (ha : Liv G N.scr a) (hw7 : o.kind = 7 → a.d.r.waiting = true) (hra : a.ref = r) (ho : o.kind = 3 ∨ o.kind = 5 ∨ o.kind = 6 → G o.num = false) : Sim G (c + 1) (armN N r a o).1 (armN M r a o).1 ∧ (armN M r a o).2 = (armN N r a o).2 := by
  have hu : ∀ {N M : NdS}, Sim G c N M → Sim G (c + 1) N M := fun h => h.up (Nat.le_succ _)
  unfold armN
  split
  · exact ⟨hu (h.addSaid _), rfl⟩
  split
  · rename_i e
    exact ⟨hu (h.snd (rem60_sim G) (ho (.inl e)) hr), rfl⟩
  split
  · rename_i e
    exact ⟨hu (h.snd (rem60_sim G) (ho (.inr (.inl e))) hr), rfl⟩
  split
  · rename_i e
    exact ⟨hu ((h.link (ho (.inr (.inr e)))).snd (rem60_sim G) (ho (.inr (.inr e))) hr), rfl⟩
  split
  · obtain ⟨h1, h2, h3, h30, h4⟩ := h.spawn hc o.text
    refine ⟨?_, rfl⟩
    dsimp only
    rw [h1.find hr, h2]
    rcases hf : (spawnN N o.text).1.find r with _ | b
    · exact h1
    · obtain ⟨hm, e⟩ := find_some hf
      exact h1.setA (by show G b.ref = false; rw [e]; exact hr) ((h1.liv b hm (by rw [e]; exact hr)).give h3 h30)
  split
  · rename_i e
    exact ⟨hu (h.setA (by show G a.ref = false; rw [hra]; exact hr) (ha.wait (hw7 e) _)), rfl⟩
  split
  · exact ⟨hu (remN_sim G 60 c N M r false _ h hr), rfl⟩
  split
  · exact ⟨hu (remN_sim G 60 c N M r true _ h hr), rfl⟩
  · exact ⟨hu h, rfl⟩
theorem Sim.step (h : Sim G c N M) (hc : c < 60 ∨ ∀ x, G x = false) {r : Int} (hr : G r = false) : Sim G (c + 1) (stepN N r).1 (stepN M r).1 ∧ (stepN M r).2 = (stepN N r).2 := by
  rcases ha : N.find r with _ | a
  · have ha' : M.find r = none := by rw [h.find hr, ha]
    unfold stepN
    rw [ha, ha']
    exact ⟨h.up (Nat.le_succ _), rfl⟩
  · have ha' : M.find r = some a := by rw [h.find hr, ha]
    obtain ⟨hm, e⟩ := find_some ha
    have hl := (h.liv a hm (by rw [e]; exact hr)).go
    have e2 : (goA a).1.ref = r := (goA_rf a).trans e
    have hg1 : G (goA a).1.ref = false := by rw [e2]; exact hr
    rcases hg : (goA a).2 with _ | _
    · rw [stepN_no ha hg, stepN_no ha' hg]
      exact ⟨(h.setA hg1 hl).up (Nat.le_succ _), rfl⟩
    · rw [stepN_go ha hg, stepN_go ha' hg]
      have eM : ranA M a = ranA N a := by unfold ranA; rw [h.fuel]
      rw [eM, h.fuel]
      obtain ⟨hl2, hask, hw7⟩ := hl.ran (goA_waits hg) N.fuel
      refine ((h.setA hg1 hl).setA (a := ranA N a) (by show G (goA a).1.ref = false; exact hg1) hl2).arm hc hr hl2 hw7 e2 (fun ek => ?_)
      rcases hask ek with e3 | e3
      · rw [e3]; exact hg1
      · exact e3
theorem Sim.loop : ∀ (k : Nat) {c : Nat} {N M : NdS} {r : Int}, Sim G c N M → (c + k ≤ 60 ∨ ∀ x, G x = false) → G r = false → Sim G (c + k) (loopN k N r) (loopN k M r)
  | 0, c, N, M, r, h, _, _ => h
  | k + 1, c, N, M, r, h, hc, hr => by
    unfold loopN
    rw [h.has hr]
    split
    · obtain ⟨h1, h2⟩ := h.step (hc.imp (fun e => by omega) (fun e => e)) hr
      rw [h2]
      split
      · have := Sim.loop k h1 (hc.imp (fun e => by omega) (fun e => e)) hr
        exact this.up (by omega)
      · exact h1.up (by omega)
    · exact h.up (by omega)
theorem Sim.ready (h : Sim G c N M) : readyN M = readyN N ∧ ∀ x, x ∈ readyN N → G x = false := by
  have key : ∀ a, a ∈ N.acts → canA a = true → G a.ref = false := fun a ha hcan => by
    rcases hg : G a.ref with _ | _
    · rfl
    · exfalso
      obtain ⟨h1, h2, h3⟩ := h.dead a ha hg
      have h4 : decide (a.ticks = 0) = false := decide_eq_false (by omega)
      unfold canA at hcan
      rw [h1, h3, h4] at hcan
      simp at hcan
  refine ⟨?_, fun x hx => ?_⟩
  · unfold readyN
    rw [h.acts, List.filter_filter]
    congr 1
    refine List.filter_congr (fun a ha => ?_)
    rcases hcan : canA a with _ | _
    · simp
    · simp [key a ha hcan]
  · unfold readyN at hx
    obtain ⟨a, ha, rfl⟩ := List.mem_map.1 hx
    exact key a (List.mem_filter.1 ha).1 (List.mem_filter.1 ha).2
theorem Sim.turn (h : Sim G c N M) (hc : c + N.fuel ≤ 60 ∨ ∀ x, G x = false) : Sim G (c + N.fuel) (turnN N).1 (turnN M).1 := by
  obtain ⟨h1, h2⟩ := h.ready
  unfold turnN
  rw [h1]
  split
  · exact h.up (by omega)
  · rename_i h0
    rw [h.last, h.fuel]
    exact Sim.loop N.fuel (c := c) (N := { N with last := nextI (readyN N) N.last }) { h with last := rfl, fuel := rfl } hc (h2 _ (nextI_mem h0 _))
theorem Sim.tick (h : Sim G c N M) : Sim G c (tickN N) (tickN M) := by
  have hrf : ∀ a : ActS, (tickA a).ref = a.ref := fun a => by unfold tickA; split <;> rfl
  refine { h with acts := ?_, ra := ?_, srt := ?_, dead := ?_, liv := ?_, len := ?_ }
  · show M.acts.map tickA = (N.acts.map tickA).filter _
    rw [h.acts]
    exact (filter_mapR (fun a => by rw [hrf a]) _).symm
  · show N.rows.map (·.ref) = (N.acts.map tickA).map (·.ref)
    rw [List.map_map, h.ra]
    exact (List.map_congr_left (fun a _ => hrf a)).symm
  · exact srt_refs (by show (N.acts.map tickA).map (·.ref) = _; rw [List.map_map]; exact List.map_congr_left (fun a _ => hrf a)) h.srt
  · intro b hb hg
    have hb : b ∈ N.acts.map tickA := hb
    obtain ⟨a, ha, rfl⟩ := List.mem_map.1 hb
    rw [hrf a] at hg
    obtain ⟨d1, d2, d3⟩ := h.dead a ha hg
    unfold tickA
    rw [if_neg (by simp; omega)]
    exact ⟨d1, d2, d3⟩
  · intro b hb hg
    have hb : b ∈ N.acts.map tickA := hb
    obtain ⟨a, ha, rfl⟩ := List.mem_map.1 hb
    rw [hrf a] at hg
    unfold tickA
    have hl := h.liv a ha hg
    split
    · exact ⟨hl.kid, hl.kn, hl.self, hl.tame, hl.mkn, hl.k0, hl.lk, hl.w⟩
    · exact hl
  · show (N.acts.map _).length ≤ c
    rw [List.length_map]; exact h.len
theorem Sim.put (h : Sim G c N M) {x : LT} (ht : G x.to = false) (hf : G x.frm = false) : Sim G c (putN N x).1 (putN M x).1 := by
  unfold putN
  split
  · exact h
  · rw [h.find ht]
    rcases N.find x.to with _ | a
    · exact h.rpl (rem60_sim G) ht hf
    · dsimp only
      split
      · exact h
      · exact h.dlv (rem60_sim G) ht hf
theorem Sim.refs (h : Sim G c N M) : refsN M = (refsN N).filter fun x => !G x := by
  unfold refsN
  rw [h.acts, map_filterR (fun a : ActS => a.ref) (fun x => !G x)]
/-- a deed of both -/
theorem Sim.deed (h : Sim G c N M) (d : Dd) (hk : (∀ x, G x = false) ∨ ((d.kind = 3 ∨ d.kind = 4) ∧ c + N.fuel ≤ 60)) : ∃ c', Sim G c' (doN N d) (doN M d) := by
  unfold doN
  split
  · rename_i e
    rcases hk with hk | ⟨e2, _⟩
    · exact ⟨_, (h.spawn (.inr hk) _).1⟩
    · omega
  split
  · rename_i e
    rcases hk with hk | ⟨e2, _⟩
    · have e1 : refsN M = refsN N := by
        rw [h.refs]
        exact List.filter_eq_self.2 (fun x _ => by rw [hk]; rfl)
      have e2 : msgD M d = msgD N d := by
        unfold msgD toD
        rw [e1]
      rw [e1, e2]
      split
      · exact ⟨_, h⟩
      · exact ⟨_, h.put (hk _) (hk _)⟩
    · omega
  split
  · exact ⟨_, h.turn (hk.elim .inr (fun e => .inl e.2))⟩
  split
  · exact ⟨_, h.tick⟩
  · exact ⟨_, h⟩
theorem Sim.fit (h : Sim G c N M) : Sim G N.acts.length N M := { h with len := Nat.le_refl _ }
end
end Go.Proofs.YtjjfglbcikaicaaGreat
namespace Go.Proofs.YtjjfglbcikaicaaGreat
open Go.RowKit
set_option linter.unusedVariables false
set_option linter.unusedSimpArgs false
theorem tameL_tame (L : List (List Stp)) : ∀ l, l ∈ tameL L → TameS l := fun l hl => by
  unfold tameL at hl
  obtain ⟨l0, hl0, rfl⟩ := List.mem_map.1 hl
  intro s hs hk
  unfold tameScr at hs
  obtain ⟨q, hq, rfl⟩ := List.mem_map.1 hs
  unfold tameStp at hk ⊢
  dsimp only at hk ⊢
  rw [if_pos hk]
  omega
theorem doN_fuel (N : NdS) (d : Dd) : (doN N d).fuel = N.fuel ∧ (doN N d).id = N.id ∧ (doN N d).scr = N.scr := by
  unfold doN
  split
  · have := spawnN_keep N (nmD d.n); exact ⟨this.fuel, this.id, this.scr⟩
  split
  · split
    · exact ⟨rfl, rfl, rfl⟩
    · have := putN_keep N (msgD N d); exact ⟨this.fuel, this.id, this.scr⟩
  split
  · unfold turnN
    split
    · exact ⟨rfl, rfl, rfl⟩
    · have := loopN_keep N.fuel { N with last := nextI (readyN N) N.last } (nextI (readyN N) N.last)
      exact ⟨this.fuel, this.id, this.scr⟩
  split
  · exact ⟨rfl, rfl, rfl⟩
  · exact ⟨rfl, rfl, rfl⟩
theorem foldl_fuel : ∀ (l : List Dd) (N : NdS), (l.foldl doN N).fuel = N.fuel ∧ (l.foldl doN N).id = N.id
  | [], N => ⟨rfl, rfl⟩
  | d :: l, N => by
    obtain ⟨h1, h2⟩ := foldl_fuel l (doN N d)
    obtain ⟨k1, k2, _⟩ := doN_fuel N d
    exact ⟨h1.trans k1, h2.trans k2⟩
theorem begunN_fuel (L : List (List Stp)) (x : Int) (l : List Dd) : (begunN L x l).fuel ≤ 20 ∧ (begunN L x l).id = 1 := by
  obtain ⟨h1, h2⟩ := foldl_fuel (l.take 40) (newN 1 L (fuelN x))
  refine ⟨?_, h2⟩
  show (List.foldl doN _ _).fuel ≤ 20
  rw [h1]
  exact (fuelN_le x).2
/-- a node that is begun, beside itself -/
theorem begun_sim {L : List (List Stp)} (hL : ∀ l, l ∈ L → TameS l) (x : Int) (l : List Dd) : ∃ c, Sim (fun _ => false) c (begunN L x l) (begunN L x l) := by
  have h0 : Sim (fun _ => false) 0 (newN 1 L (fuelN x)) (newN 1 L (fuelN x)) :=
    { id := rfl, fuel := rfl, scr := rfl, homes := rfl, spawned := rfl, last := rfl, out := rfl, said := rfl, acts := rfl, rows := rfl, ra := rfl, srt := List.Pairwise.nil, dead := fun a ha => (by cases ha), liv := fun a ha => (by cases ha), lrow := fun a ha => (by cases ha), tame := hL, id1 := (by show (1 : Int) ≤ 1; omega), gb := fun x hx => (by cases hx), len := Nat.le_refl _ }
  have key : ∀ (l : List Dd) (c : Nat) (N : NdS), Sim (fun _ => false) c N N → ∃ c', Sim (fun _ => false) c' (l.foldl doN N) (l.foldl doN N) := fun l => by
    induction l with
    | nil => intro c N h; exact ⟨c, h⟩
    | cons d l ih =>
      intro c N h
      obtain ⟨c1, h1⟩ := h.deed d (.inl fun _ => rfl)
      exact ih c1 _ h1
  exact key (l.take 40) 0 _ h0
theorem find_uniqR {r : Li.LR} : ∀ {l : List Li.LR}, l.Pairwise (fun a b => a.ref < b.ref) → r ∈ l → rowL l r.ref = some r
  | [], _, h => by cases h
  | b :: l, hs, h => by
    have hs' := List.pairwise_cons.1 hs
    unfold rowL
    rcases List.mem_cons.1 h with rfl | h
    · exact List.find?_cons_of_pos (by simp)
    · have := hs'.1 r h
      rw [List.find?_cons_of_neg (by simp; omega)]
      exact find_uniqR hs'.2 h
end Go.Proofs.YtjjfglbcikaicaaGreat
namespace Go.Proofs.YtjjfglbcikaicaaGreat
open Go.RowKit
set_option linter.unusedVariables false
set_option linter.unusedSimpArgs false
def liveK (k : KnS) (L : Int → Bool) : Int → Bool := if k.awake || L k.ref then fun x => L x || x == k.ref || k.refs.contains x else L
def liveI (K : Nat → KnS) : Nat → (Int → Bool) → Int → Bool
  | 0, L => L
  | i + 1, L => liveK (K i) (liveI K i L)
def liveR (K : Nat → KnS) (n : Nat) : Nat → Int → Bool
  | 0 => fun _ => false
  | j + 1 => liveI K n (liveR K n j)
def doneK (L : Int → Bool) (k : KnS) : Bool := L k.ref && k.refs.all L
def cntK (p : Nat → Bool) : Nat → Nat
  | 0 => 0
  | n + 1 => cntK p n + if p n then 1 else 0
theorem cntK_le (p : Nat → Bool) : ∀ n, cntK p n ≤ n
  | 0 => Nat.le_refl _
  | n + 1 => by
    have := cntK_le p n
    unfold cntK
    split <;> omega
theorem cntK_mono {p q : Nat → Bool} : ∀ {n : Nat}, (∀ i, i < n → p i = true → q i = true) → cntK p n ≤ cntK q n
  | 0, _ => Nat.le_refl _
  | n + 1, h => by
    have h1 := cntK_mono (n := n) (fun i hi => h i (by omega))
    have h2 := h n (by omega)
    unfold cntK
    split
    · rename_i e
      rw [if_pos (h2 e)]
      omega
    · split <;> omega
theorem cntK_lt {p q : Nat → Bool} {i : Nat} (hp : p i = false) (hq : q i = true) : ∀ {n : Nat}, i < n → (∀ i, i < n → p i = true → q i = true) → cntK p n + 1 ≤ cntK q n
  | 0, hi, _ => by omega
  | n + 1, hi, h => by
    unfold cntK
    by_cases e : i = n
    · subst e
      have := cntK_mono (n := i) (fun j hj => h j (by omega))
      rw [hp, hq]
      simp
      omega
    · have h1 := cntK_lt hp hq (n := n) (by omega) (fun i hi => h i (by omega))
      have h2 := h n (by omega)
      split
      · rename_i e
        rw [if_pos (h2 e)]
        omega
      · split <;> omega
theorem cntK_full {p : Nat → Bool} : ∀ {n : Nat}, n ≤ cntK p n → ∀ i, i < n → p i = true
  | 0, _, i, hi => by omega
  | n + 1, h, i, hi => by
    have h1 := cntK_le p n
    unfold cntK at h
    rcases hp : p n with _ | _
    · rw [hp] at h
      simp at h
      omega
    · rw [hp] at h
      simp at h
      by_cases e : i = n
      · rw [e]; exact hp
      · exact cntK_full h i (by omega)
theorem liveK_mono {k : KnS} {L : Int → Bool} {x : Int} (h : L x = true) : liveK k L x = true := by
  unfold liveK
  split
  · dsimp only; rw [h]; rfl
  · exact h
theorem liveK_hit {k : KnS} {L : Int → Bool} (h : k.awake = true ∨ L k.ref = true) : liveK k L k.ref = true ∧ ∀ x, x ∈ k.refs → liveK k L x = true := by
  unfold liveK
  rw [if_pos (by rcases h with h | h <;> rw [h] <;> simp)]
  refine ⟨by simp, fun x hx => by simp [hx]⟩
variable {K : Nat → KnS}
theorem liveI_mono {L : Int → Bool} {x : Int} (h : L x = true) : ∀ i, liveI K i L x = true
  | 0 => h
  | i + 1 => liveK_mono (liveI_mono h i)
theorem liveI_up {L : Int → Bool} {x : Int} {i : Nat} (h : liveI K i L x = true) : ∀ n, i ≤ n → liveI K n L x = true
  | 0, hn => by
    obtain rfl : i = 0 := by omega
    exact h
  | n + 1, hn => by
    by_cases e : i = n + 1
    · subst e; exact h
    · exact liveK_mono (liveI_up h n (by omega))
theorem liveI_hit {L : Int → Bool} {n i : Nat} (hi : i < n) (h : (K i).awake = true ∨ L (K i).ref = true) : doneK (liveI K n L) (K i) = true := by
  have h2 := liveK_hit (k := K i) (L := liveI K i L) (h.imp id (fun e => liveI_mono e i))
  have h3 : ∀ x, liveI K (i + 1) L x = true → liveI K n L x = true := fun x hx => liveI_up hx n hi
  unfold doneK
  rw [Bool.and_eq_true]
  exact ⟨h3 _ h2.1, List.all_eq_true.2 (fun x hx => h3 _ (h2.2 x hx))⟩
def ClosedK (K : Nat → KnS) (n : Nat) (L : Int → Bool) : Prop := ∀ i, i < n → ((K i).awake = true ∨ L (K i).ref = true) → doneK L (K i) = true
theorem liveI_closed {n : Nat} {L : Int → Bool} (h : ClosedK K n L) : ∀ m, m ≤ n → liveI K m L = L
  | 0, _ => rfl
  | m + 1, hm => by
    unfold liveI
    rw [liveI_closed h m (by omega)]
    unfold liveK
    split
    · rename_i hc
      have hd := h m (by omega) (by simpa using hc)
      unfold doneK at hd
      rw [Bool.and_eq_true] at hd
      funext x
      rcases hx : L x with _ | _
      · have e1 : (x == (K m).ref) = false := by
          rcases he : x == (K m).ref with _ | _
          · rfl
          · have : x = (K m).ref := by simpa using he
            rw [← this, hx] at hd
            cases hd.1
        have e2 : (K m).refs.contains x = false := by
          rcases he : (K m).refs.contains x with _ | _
          · rfl
          · have := List.all_eq_true.1 hd.2 x (by simpa using he)
            rw [hx] at this
            cases this
        rw [e1, e2]
        rfl
      · rfl
    · rfl
theorem live_count (n : Nat) : ∀ j, ClosedK K n (liveR K n j) ∨ j ≤ cntK (fun i => doneK (liveR K n j) (K i)) n
  | 0 => .inr (Nat.zero_le _)
  | j + 1 => by
    by_cases hc : ClosedK K n (liveR K n j)
    · left
      unfold liveR
      rw [liveI_closed hc n (Nat.le_refl _)]
      exact hc
    · right
      rcases live_count n j with h | h
      · exact absurd h hc
      · have : ∃ i, i < n ∧ ((K i).awake = true ∨ liveR K n j (K i).ref = true) ∧ doneK (liveR K n j) (K i) = false := by
          refine Classical.byContradiction (fun hn => hc (fun i hi hw => ?_))
          rcases hd : doneK (liveR K n j) (K i) with _ | _
          · exact absurd ⟨i, hi, hw, hd⟩ hn
          · rfl
        obtain ⟨i, hi, hw, hd⟩ := this
        have h2 : cntK (fun i => doneK (liveR K n j) (K i)) n + 1 ≤ cntK (fun i => doneK (liveR K n (j + 1)) (K i)) n := by
          refine cntK_lt (i := i) hd (liveI_hit hi hw) hi (fun m hm h3 => ?_)
          unfold doneK at h3 ⊢
          rw [Bool.and_eq_true] at h3 ⊢
          exact ⟨liveI_mono h3.1 n, List.all_eq_true.2 (fun x hx => liveI_mono (List.all_eq_true.1 h3.2 x hx) n)⟩
        omega
/-- as many rounds as there are actors are enough -/
theorem live_closed (n : Nat) : ClosedK K n (liveR K n n) := by
  rcases live_count (K := K) n n with h | h
  · exact h
  · exact fun i hi _ => cntK_full h i hi
end Go.Proofs.YtjjfglbcikaicaaGreat
namespace Go.Proofs.YtjjfglbcikaicaaGreat
open Go.RowKit
set_option linter.unusedVariables false
set_option linter.unusedSimpArgs false
/-- the node without those of G -/
def cutG (G : Int → Bool) (N : NdS) : NdS := { N with acts := N.acts.filter fun a => !G a.ref, rows := N.rows.filter fun r => !G r.ref }
def cutI (G : Int → Bool) (N : NdS) (i : Nat) : NdS := cutG (fun x => G x && ((refsN N).take i).contains x) N
theorem cutI_zero (G : Int → Bool) (N : NdS) : cutI G N 0 = N := by
  unfold cutI cutG
  have h1 : N.acts.filter (fun a => !(G a.ref && ((refsN N).take 0).contains a.ref)) = N.acts := List.filter_eq_self.2 (fun a _ => by simp)
  have h2 : N.rows.filter (fun r => !(G r.ref && ((refsN N).take 0).contains r.ref)) = N.rows := List.filter_eq_self.2 (fun a _ => by simp)
  rw [h1, h2]
theorem cutI_all {G : Int → Bool} {N : NdS} (hr : N.rows.map (·.ref) = N.acts.map (·.ref)) : cutI G N N.acts.length = cutG G N := by
  have hl : (refsN N).take N.acts.length = refsN N := List.take_of_length_le (by unfold refsN; simp)
  unfold cutI cutG
  rw [hl]
  have h1 : N.acts.filter (fun a => !(G a.ref && (refsN N).contains a.ref)) = N.acts.filter (fun a => !G a.ref) := List.filter_congr (fun a ha => by
    have : (refsN N).contains a.ref = true := by
      rw [List.contains_iff_mem]
      exact List.mem_map.2 ⟨a, ha, rfl⟩
    rw [this, Bool.and_true])
  have h2 : N.rows.filter (fun a => !(G a.ref && (refsN N).contains a.ref)) = N.rows.filter (fun a => !G a.ref) := List.filter_congr (fun a ha => by
    have : (refsN N).contains a.ref = true := by
      rw [List.contains_iff_mem]
      show a.ref ∈ N.acts.map (·.ref)
      rw [← hr]
      exact List.mem_map.2 ⟨a, ha, rfl⟩
    rw [this, Bool.and_true])
  rw [h1, h2]
theorem take_snoc {l : List Int} {i : Nat} (h : i < l.length) (x : Int) : (l.take (i + 1)).contains x = ((l.take i).contains x || x == lst l i) := by
  have e : l.take (i + 1) = l.take i ++ [lst l i] := by
    rw [List.take_add_one, List.getElem?_eq_getElem h]
    simp [lst, h]
  rw [e]
  simp [List.contains_eq_any_beq]
  rfl
theorem cutI_skip {G : Int → Bool} {N : NdS} {i : Nat} (hi : i < N.acts.length) (hg : G (lst (refsN N) i) = false) : cutI G N (i + 1) = cutI G N i := by
  have hp : (fun x => G x && ((refsN N).take (i + 1)).contains x) = fun x => G x && ((refsN N).take i).contains x := by
    funext x
    rw [take_snoc (by unfold refsN; simpa using hi)]
    rcases he : x == lst (refsN N) i with _ | _
    · rw [Bool.or_false]
    · have : x = lst (refsN N) i := by simpa using he
      rw [this, hg]
      rfl
  unfold cutI
  rw [hp]
theorem cutI_drop {G : Int → Bool} {N : NdS} (hs : N.acts.Pairwise fun a b => a.ref < b.ref) {i : Nat} (hi : i < N.acts.length) (hg : G (lst (refsN N) i) = true) : (cutI G N i).has (lst (refsN N) i) = true ∧ cutI G N (i + 1) = dropN (cutI G N i) (lst (refsN N) i) := by
  have hl : i < (refsN N).length := by unfold refsN; simpa using hi
  have hs2 : (refsN N).Pairwise (· < ·) := List.pairwise_map.2 hs
  have e0 : lst (refsN N) i = (refsN N)[i] := by simp [lst, hl]
  have hno : ((refsN N).take i).contains (lst (refsN N) i) = false := by
    rcases hc : ((refsN N).take i).contains (lst (refsN N) i) with _ | _
    · rfl
    · exfalso
      rw [List.contains_iff_mem] at hc
      obtain ⟨j, hj, e⟩ := List.mem_iff_getElem.1 hc
      have hj' : j < i := by
        have := hj
        rw [List.length_take] at this
        omega
      rw [List.getElem_take, e0] at e
      have := List.pairwise_iff_getElem.1 hs2 j i (by omega) hl hj'
      omega
  have hhas : (cutI G N i).has (lst (refsN N) i) = true := by
    have hm : lst (refsN N) i ∈ refsN N := by rw [e0]; exact List.getElem_mem _
    obtain ⟨a, ha, e⟩ := List.mem_map.1 hm
    refine has_iff.2 ⟨a, List.mem_filter.2 ⟨ha, ?_⟩, e⟩
    dsimp only
    rw [e, hno, Bool.and_false]
    rfl
  refine ⟨hhas, ?_⟩
  unfold dropN
  rw [if_pos hhas]
  have hp : ∀ x, (!(G x && ((refsN N).take (i + 1)).contains x)) = (!(x == lst (refsN N) i) && !(G x && ((refsN N).take i).contains x)) := fun x => by
    rw [take_snoc hl]
    rcases he : x == lst (refsN N) i with _ | _
    · rw [Bool.or_false]
      simp
    · have : x = lst (refsN N) i := by simpa using he
      rw [this, hg]
      simp
  unfold cutI cutG NdS.delA goneL
  dsimp only
  rw [List.filter_filter, List.filter_filter]
  have h1 : N.acts.filter (fun a => !(G a.ref && ((refsN N).take (i + 1)).contains a.ref)) = N.acts.filter (fun a => !(a.ref == lst (refsN N) i) && !(G a.ref && ((refsN N).take i).contains a.ref)) := List.filter_congr (fun a _ => hp a.ref)
  have h2 : N.rows.filter (fun a => !(G a.ref && ((refsN N).take (i + 1)).contains a.ref)) = N.rows.filter (fun a => !(a.ref == lst (refsN N) i) && !(G a.ref && ((refsN N).take i).contains a.ref)) := List.filter_congr (fun a _ => hp a.ref)
  rw [h1, h2]
/-- what is live holds whoever is awake, and whom the live ones know -/
structure LiveOk (N : NdS) (L : Int → Bool) : Prop where
  aw : ∀ a, a ∈ N.acts → awakeA a = true → L a.ref = true
  kn : ∀ a, a ∈ N.acts → L a.ref = true → ∀ x, Wf x → knowB N a x = true → x ≠ 0 → x ≠ a.ref → L x = true
def gone (N : NdS) (L : Int → Bool) (x : Int) : Bool := (refsN N).contains x && !L x
theorem cut_sim {N : NdS} {c : Nat} {L : Int → Bool} (h : Sim (fun _ => false) c N N) (hL : LiveOk N L) (hB : RefB N) (hok : NdOk N) : Sim (gone N L) N.acts.length N (cutG (gone N L) N) := by
  have hro := rowsOk_iff.1 hok.rows
  have hg0 : ∀ x, x ∉ refsN N → gone N L x = false := fun x hx => by
    unfold gone
    rw [show (refsN N).contains x = false by simpa using hx]
    rfl
  have hg1 : ∀ x, L x = true → gone N L x = false := fun x hx => by unfold gone; rw [hx]; simp
  have hlow : ∀ x, x ∈ refsN N → 1 ≤ x := fun x hx => by
    have hx : x ∈ N.acts.map (·.ref) := hx
    rw [← h.ra] at hx
    obtain ⟨r, hr, rfl⟩ := List.mem_map.1 hx
    exact (hro.2.2 r hr).1
  have hlive : ∀ a, a ∈ N.acts → gone N L a.ref = false → L a.ref = true := fun a ha hg => by
    unfold gone at hg
    rw [show (refsN N).contains a.ref = true by rw [List.contains_iff_mem]; exact List.mem_map.2 ⟨a, ha, rfl⟩] at hg
    simpa using hg
  have hkn : ∀ a, a ∈ N.acts → L a.ref = true → ∀ x, Wf x → knowB N a x = true → gone N L x = false := fun a ha hl x hw hk => by
    by_cases h0 : x = 0
    · exact hg0 x (fun hm => by have := hlow x hm; omega)
    · by_cases h1 : x = a.ref
      · rw [h1]; exact hg1 _ hl
      · exact hg1 _ (hL.kn a ha hl x hw hk h0 h1)
  refine { h with acts := rfl, rows := rfl, dead := ?_, liv := ?_, lrow := ?_, gb := ?_, len := Nat.le_refl _ }
  · intro a ha hg
    have hl : L a.ref = false := by
      rcases he : L a.ref with _ | _
      · rfl
      · rw [hg1 _ he] at hg; cases hg
    have haw : awakeA a = false := by
      rcases he : awakeA a with _ | _
      · rfl
      · rw [hL.aw a ha he] at hl; cases hl
    unfold awakeA at haw
    simp only [Bool.or_eq_false_iff] at haw
    obtain ⟨⟨h1, h2⟩, h3⟩ := haw
    unfold canA at h1
    simp only [Bool.or_eq_false_iff] at h1
    have hw : a.waits = true := by simpa using h1.1.1
    rw [hw] at h3
    refine ⟨hw, ?_, ?_⟩
    · have := of_decide_eq_false (show decide (0 ≤ a.ticks) = false by simpa using h3)
      omega
    · have := of_decide_eq_false h2
      exact List.eq_nil_of_length_eq_zero (by omega)
  · intro a ha hg
    have hl := hlive a ha hg
    have h0 := h.liv a ha rfl
    refine ⟨?_, h0.kn, h0.self, h0.tame, h0.mkn, h0.k0, h0.lk, h0.w⟩
    rcases h0.kn with e | e
    · rw [e]; exact hg0 0 (fun hm => by have := hlow 0 hm; omega)
    · exact hkn a ha hl _ (hok.act a ha).kid (by unfold knowB; rw [e]; rfl)
  · intro r hr hg
    have hm : r.ref ∈ refsN N := by
      show r.ref ∈ N.acts.map (·.ref)
      rw [← h.ra]
      exact List.mem_map.2 ⟨r, hr, rfl⟩
    obtain ⟨a, ha, e⟩ := List.mem_map.1 hm
    have hl := hlive a ha (by rw [e]; exact hg)
    have hrow : rowL N.rows a.ref = some r := by
      rw [e]
      exact find_uniqR hro.2.1 hr
    have hd : rowD N.rows a.ref = r := by
      unfold rowD
      rw [hrow]
      rfl
    have hw := hok.rows.wf r hr
    refine ⟨fun x hx => ?_, fun x hx => ?_⟩
    · refine hkn a ha hl x (hw.2.1 x hx) ?_
      unfold knowB
      rw [hd, decide_eq_true (List.mem_append.2 (.inl hx))]
      simp
    · refine hkn a ha hl x (hw.2.2 x hx) ?_
      unfold knowB
      rw [hd, decide_eq_true (List.mem_append.2 (.inr hx))]
      simp
  · intro x hx
    have hm : x ∈ refsN N := by
      refine Classical.byContradiction (fun hn => ?_)
      rw [hg0 x hn] at hx
      cases hx
    obtain ⟨a, ha, e⟩ := List.mem_map.1 hm
    refine ⟨hlow x hm, ?_⟩
    rw [← e]
    exact hB a ha
end Go.Proofs.YtjjfglbcikaicaaGreat
namespace Go.Proofs.YtjjfglbcikaicaaGreat
open Go.RowKit Go.Maps
set_option linter.unusedVariables false
set_option linter.unusedSimpArgs false
theorem und_live : Tryz.prog.underlying 91 = some (.map 3 4) := Tryz.underlying91
theorem zero_boolL : ∀ w, (zeroValue 4).run Tryz.prog w = .ok (.bool false) w := fun w => by kernel_rfl
theorem make_live : ∀ w, (Instr.makeMap 91 none).run Tryz.prog w = .ok (.map (some w.heap.size)) (w.alloc (.map #[] 0)) := fun w => by kernel_rfl
/-- the map L of at most cap entries; all else is as it was -/
structure LvAt (wk w : World) (lm cap : Nat) (L : Int → Bool) : Prop where
  fr : Fr (fun k => k = lm) wk w
  own : ∃ n, n ≤ cap ∧ OwnM w lm n (knG L)
theorem LvAt.new {wk w w' : World} {lm cap : Nat} {L : Int → Bool} (h : LvAt wk w lm cap L) (hf : Fr (fun _ => False) w w') : LvAt wk w' lm cap L :=
  ⟨h.fr.trans' (hf.weak (fun _ h => h.elim)), by obtain ⟨n, h1, h2⟩ := h.own; exact ⟨n, h1, h2.fr hf (fun h => h)⟩⟩
theorem LvAt.up {wk w : World} {lm cap cap' : Nat} {L L' : Int → Bool} (h : LvAt wk w lm cap L) (hc : cap ≤ cap') (hL : ∀ x, L' x = L x) : LvAt wk w lm cap' L' := by
  obtain ⟨n, h1, h2⟩ := h.own
  exact ⟨h.fr, n, Nat.le_trans h1 hc, by rw [show L' = L from funext hL]; exact h2⟩
set_option maxRecDepth 100000 in
theorem LvAt.look {wk w : World} {lm cap : Nat} {L : Int → Bool} (h : LvAt wk w lm cap L) {x : Int} (hx : Wf x) : (Instr.lookup 91 (.map (some lm)) (.int .i64 x) false).run Tryz.prog w = .ok (.bool (L x)) w := by
  obtain ⟨n, _, h2⟩ := h.own
  have := h2.look und_live zero_boolL hx
  rw [this]
  unfold knG
  rcases L x with _ | _ <;> rfl
set_option maxRecDepth 100000 in
theorem LvAt.set {wk w : World} {lm cap : Nat} {L : Int → Bool} (h : LvAt wk w lm cap L) {x : Int} (hx : Wf x) (hc : cap < 9000000000000000000) :
    ∃ w', (Instr.mapUpdate 91 (.map (some lm)) (.int .i64 x) (.bool true)).run Tryz.prog w = .ok () w' ∧ LvAt wk w' lm (cap + 1) (fun y => L y || y == x) ∧ Fr (fun k => k = lm) w w' := by
  obtain ⟨n, h1, h2⟩ := h.own
  obtain ⟨w', hrun, ho, hg⟩ := OwnM.store und_live h2 (by unfold maxLen; omega) x (.bool true) hx
  have hf : Fr (fun k => k = lm) w w' := Fr.of_grown hg (fun k hk => .inl (by injection hk with hk; exact hk.symm))
  refine ⟨w', hrun, ⟨h.fr.trans' hf, _, ?_, ho.congr (fun y _ => ?_)⟩, hf⟩
  · split <;> omega
  · show (if (L y || y == x) = true then some (Value.bool true) else none) = if y = x then some (Value.bool true) else if L y = true then some (Value.bool true) else none
    by_cases e : y = x
    · rw [if_pos e, e]
      simp
    · rw [if_neg e]
      have : (y == x) = false := by simpa using e
      rw [this, Bool.or_false]
theorem LvAt.lt {wk w : World} {lm cap : Nat} {L : Int → Bool} (h : LvAt wk w lm cap L) : lm < w.heap.size := by
  obtain ⟨n, _, h2⟩ := h.own
  exact h2.lt
theorem KnRow.frS {S : Nat → Prop} {w w' : World} {base n : Nat} {v : Value} {K : Nat → KnS} {V : Nat → Value} (h : KnRow w base v n K V) (hf : Fr S w w') (hS : ∀ k, base ≤ k → ¬ S k) : KnRow w' base v n K V :=
  ⟨hf.row h.row (fun k hk => hS k (h.row.lt k hk).1), fun i hi => hf.row (h.each i hi) (fun k hk => hS k ((h.each i hi).blk k hk).1), h.outer⟩
theorem LvAt.frS {S : Nat → Prop} {wk w w' : World} {lm cap : Nat} {L : Int → Bool} (h : LvAt wk w lm cap L) (hf : Fr S w w') (hn : ¬ S lm) : LvAt w' w' lm cap L :=
  ⟨Fr.refl _ _, by obtain ⟨n, h1, h2⟩ := h.own; exact ⟨n, h1, h2.fr hf hn⟩⟩
/-- the rounds are enough -/
theorem live_ok {N : NdS} {K : Nat → KnS} (hK : ∀ i a, N.acts[i]? = some a → KnOk N a (K i)) : LiveOk N (liveR K N.acts.length N.acts.length) := by
  have hcl := live_closed (K := K) N.acts.length
  have key : ∀ a, a ∈ N.acts → ∃ i, i < N.acts.length ∧ KnOk N a (K i) := fun a ha => by
    obtain ⟨i, hi, e⟩ := List.mem_iff_getElem.1 ha
    exact ⟨i, hi, hK i a (by rw [List.getElem?_eq_getElem hi, e])⟩
  refine ⟨fun a ha hw => ?_, fun a ha hl x hx hk h0 h1 => ?_⟩
  · obtain ⟨i, hi, h⟩ := key a ha
    have hd := hcl i hi (.inl (by rw [h.awake]; exact hw))
    unfold doneK at hd
    rw [Bool.and_eq_true, h.ref] at hd
    exact hd.1
  · obtain ⟨i, hi, h⟩ := key a ha
    have hd := hcl i hi (.inr (by rw [h.ref]; exact hl))
    unfold doneK at hd
    rw [Bool.and_eq_true] at hd
    exact List.all_eq_true.1 hd.2 x ((h.mem x hx).2 ⟨hk, h0, h1⟩)
theorem kn_ref {N : NdS} {K : Nat → KnS} (hK : ∀ i a, N.acts[i]? = some a → KnOk N a (K i)) {i : Nat} (hi : i < N.acts.length) : (K i).ref = lst (refsN N) i := by
  rw [(hK i _ (List.getElem?_eq_getElem hi)).ref]
  unfold lst refsN
  rw [List.getD_eq_getElem?_getD, List.getElem?_map, List.getElem?_eq_getElem hi]
  rfl
theorem any_refs {N : NdS} {K : Nat → KnS} (hK : ∀ i, i < N.acts.length → (K i).ref = lst (refsN N) i) (r : Int) : anyOf (fun i => (K i).ref == r) N.acts.length = (refsN N).contains r := by
  rw [Bool.eq_iff_iff, anyOf_true, List.contains_iff_mem]
  constructor
  · rintro ⟨i, hi, h⟩
    have e : (K i).ref = r := by simpa using h
    rw [← e, hK i hi]
    unfold lst
    rw [List.getD_eq_getElem?_getD, List.getElem?_eq_getElem (by rw [refsN_len]; exact hi)]
    exact List.getElem_mem _
  · intro h
    obtain ⟨i, hi, e⟩ := List.mem_iff_getElem.1 h
    have hi' : i < N.acts.length := by rw [← refsN_len]; exact hi
    refine ⟨i, hi', ?_⟩
    rw [hK i hi']
    have : lst (refsN N) i = r := by simp [lst, hi, e]
    rw [this]
    simp
theorem filter_snoc {p : Int → Bool} {l : List Int} {i : Nat} (hi : i < l.length) : (l.take (i + 1)).filter p = (l.take i).filter p ++ (if p (lst l i) then [lst l i] else []) := by
  have e : l.take (i + 1) = l.take i ++ [lst l i] := by
    rw [List.take_add_one, List.getElem?_eq_getElem hi]
    simp [lst, hi]
  rw [e, List.filter_append]
  congr 1
  rw [List.filter_cons]
  split <;> simp
theorem gone_at {N : NdS} {L : Int → Bool} {i : Nat} (hi : i < N.acts.length) : gone N L (lst (refsN N) i) = !L (lst (refsN N) i) := by
  unfold gone
  have hm : lst (refsN N) i ∈ refsN N := by
    unfold lst
    rw [List.getD_eq_getElem?_getD, List.getElem?_eq_getElem (by rw [refsN_len]; exact hi)]
    exact List.getElem_mem _
  rw [show (refsN N).contains (lst (refsN N) i) = true by rw [List.contains_iff_mem]; exact hm, Bool.true_and]
theorem Two.up2 {w : World} {X1 M1 X2 M2 : Nat → Prop} {base T1 T2 T p1 p2 : Nat} {P1 P2 : Int → Nat} {N1 N2 : NdS} (h : Two w base T1 T2 p1 p2 P1 P2 X1 M1 X2 M2 N1 N2) (ht : T1 ≤ T ∧ T2 ≤ T) : Two w base T T p1 p2 P1 P2 X1 M1 X2 M2 N1 N2 :=
  ⟨h.n1.up ht.1, h.n2.up ht.2, h.a12, h.a21, h.hb⟩
end Go.Proofs.YtjjfglbcikaicaaGreat
namespace Go.Proofs.YtjjfglbcikaicaaGreat
open Go.RowKit Go.Maps Go.ChangeShapes Go.WideShapes
set_option linter.unusedVariables false
set_option linter.unusedSimpArgs false
set_option maxRecDepth 100000 in
set_option maxHeartbeats 16000000 in
theorem nodeGarbage_walk {H : Type} {enc : TypeId × Value → H} (W : World) (base : Nat) (v0 v1 v2 v3 : Value) {d0 d1 d2 d3 : DataW H} {p0 p1 p2 p3 : List MemPlace}
    (k0 : Value.okWide Tryz.prog W .any base 25 v0) (k1 : Value.okWide Tryz.prog W .any base 3 v1) (k2 : Value.okWide Tryz.prog W .any base 56 v2) (k3 : Value.okWide Tryz.prog W .any base 56 v3)
    (h0 : DataW.Trod enc Tryz.prog W 0 (fun _ => true) true 25 v0 d0 p0) (h1 : DataW.Trod enc Tryz.prog W 0 (fun _ => true) true 3 v1 d1 p1) (h2 : DataW.Trod enc Tryz.prog W 0 (fun _ => true) true 56 v2 d2 p2) (h3 : DataW.Trod enc Tryz.prog W 0 (fun _ => true) true 56 v3 d3 p3) :
    Calls Tryz.prog 12 #[v0, v1, v2, v3] W fun e W' => e = .returned (.bool true) ∧ Below W.heap.size W W' := by
  obtain ⟨L, hL⟩ := open_scripts k0 h0
  obtain ⟨f, rfl, _, _, _⟩ := open_int Tryz.underlying3 k1 h1
  obtain ⟨l, hl⟩ := open_deeds k2 h2
  obtain ⟨mo, hmo⟩ := open_deeds k3 h3
  have HTM := Lib.hid (tame_scr v0 L W hL)
  have HLW := Lib.hid (tameL_wf hL.wf)
  obtain ⟨A0, c0, rfl, _⟩ := hL
  have HDD := Lib.hid hl
  obtain ⟨A2, c2, rfl, _⟩ := hl
  have HMO := Lib.hid hmo
  obtain ⟨A4, c4, rfl, _⟩ := hmo
  have HTT := Lib.hid (tameL_tame L)
  clear k0 k1 k2 k3 h0 h1 h2 h3
  go_enter Tryz.func12, Tryz.ntmps12
  go_wp2_with fail
  refine HTM.out.mono ?_
  rintro e w1 ⟨A1, c1, rfl, hs1, hb1⟩
  generalize tameL L = L1 at *
  have HF1 := Lib.hid (show Fr (fun k => W.heap.size ≤ k) W w1 from Fr.of_below hb1)
  have HSC := Lib.hid (fun (W9 : World) (hf : Fr (fun k => w1.heap.size ≤ k) w1 W9) => hs1.fr hf (fun _ h => h))
  have HDL := Lib.hid (fun (W9 : World) (hf : Fr (fun k => w1.heap.size ≤ k) w1 W9) => HDD.out.below ((HF1.out.trans' (hf.weak (S2 := fun k => W.heap.size ≤ k) (fun k hk => Nat.le_trans HF1.out.size hk))).below (fun k hk => hk) (Nat.le_refl _)))
  have HBG := Lib.hid (begun_any (fun _ => False) w1.heap.size A1 c1 L1 f _ l w1 (fun _ h => h.elim) (Nat.le_refl _) hs1 HLW.out (HDD.out.below hb1))
  clear hs1 hb1 HTM
  go_wp2_with fail
  refine HBG.out.mono ?_
  rintro e w2 ⟨p, P, X, M, rfl, hf2, -, hX, hM, hn2, htk2⟩
  have HF2 := Lib.hid (hf2.weak (S2 := fun k => w1.heap.size ≤ k) (fun _ h => h.elim))
  have HN2 := Lib.hid hn2
  have HTK := Lib.hid htk2
  have HBG2 := Lib.hid (begun_any X w1.heap.size A1 c1 L1 f _ l w2 hn2.xlt hf2.size (HSC.out w2 (hf2.weak (fun _ h => h.elim))) HLW.out (HDL.out w2 (hf2.weak (fun _ h => h.elim))))
  have HSIM := Lib.hid (begun_sim HTT.out f l)
  have HRB := Lib.hid (begunN_refB L1 f l)
  have HFU := Lib.hid (begunN_fuel L1 f l).1
  generalize begunN L1 f l = N at *
  clear hX hM htk2 hf2 hn2 HBG HDD
  go_wp2_with fail
  refine HBG2.out.mono ?_
  rintro e w3 ⟨p', P', X', M', rfl, hf3, hX0, hX, hM, hn3, -⟩
  have HTW := Lib.hid (two_begun HN2.out hf3 hX0 hM hn3 (Nat.le_trans HF2.out.size hf3.size))
  have HF3 := Lib.hid (HF2.out.trans' (hf3.weak (S2 := fun k => w1.heap.size ≤ k) (fun _ h => h.elim)))
  clear hf3 hX0 hX hM hn3 HBG2 HN2
  generalize XW X w2 w3 = XA at *
  go_wp2_with fail
  refine (nodes_any w3).mono ?_
  rintro e w4 ⟨rfl, hb4⟩
  have hmk := make_live w4
  obtain ⟨wm, hwm⟩ : ∃ wm, wm = w4.alloc (.map #[] 0) := ⟨_, rfl⟩
  have hf4 : Fr (fun _ => False) w3 wm := by rw [hwm]; exact (Fr.of_below hb4).alloc _
  have HTWm := Lib.hid (HTW.out.xw hf4)
  have HML := Lib.hid (show (∀ k, M k → k < w4.heap.size) ∧ ∀ k, M' k → k < w4.heap.size from ⟨fun k hk => Nat.lt_of_lt_of_le (HTW.out.n1.xlt k (HTW.out.n1.2.2.1 k hk).1) hb4.size, fun k hk => Nat.lt_of_lt_of_le (HTW.out.n2.xlt k (HTW.out.n2.2.2.1 k hk).1) hb4.size⟩)
  have HZM := Lib.hid (show wm.heap.size = w4.heap.size + 1 by rw [hwm]; simp)
  have HLM := Lib.hid (show w1.heap.size ≤ w4.heap.size ∧ XW XA w3 wm w4.heap.size ∧ XW X' w3 wm w4.heap.size from ⟨Nat.le_trans HF3.out.size hb4.size, .inr ⟨hb4.size, by rw [HZM.out]; omega⟩, .inr ⟨hb4.size, by rw [HZM.out]; omega⟩⟩)
  have HFm := Lib.hid (HF3.out.trans' (hf4.weak (S2 := fun k => w1.heap.size ≤ k) (fun _ h => h.elim)))
  have HMD := Lib.hid (show OwnM wm w4.heap.size 0 (knG fun _ => false) by rw [hwm]; exact (OwnM.made w4).congr (fun x _ => rfl))
  have HKN := Lib.hid (knows_any HTWm.out.n1 (by omega))
  have HWM := Lib.hid hwm
  clear hf4 hb4 hwm HTW HF2 HF3
  go_wp2_with fail
  rw [← HWM.out]
  refine HKN.out.mono ?_
  rintro e wk ⟨Ak, ck, K, V, rfl, hk4, hk5, hbk⟩
  have HKR := Lib.hid hk4
  have HKO := Lib.hid hk5
  have HTWk := Lib.hid (HTWm.out.new (Fr.of_below hbk))
  have HFk := Lib.hid (HFm.out.trans' ((Fr.of_below (S := fun _ => False) hbk).weak (S2 := fun k => w1.heap.size ≤ k) (fun _ h => h.elim)))
  have HLV := Lib.hid (show LvAt wk wk w4.heap.size 0 (liveR K N.acts.length 0) from ⟨Fr.refl _ _, 0, Nat.le_refl _, HMD.out.fr (Fr.of_below (S := fun _ => False) hbk) (fun h => h)⟩)
  have HWF := Lib.hid (show ∀ i, i < N.acts.length → Wf (K i).ref ∧ (∀ x, x ∈ (K i).refs → Wf x) ∧ (K i).refs.length ≤ 1000000000000 from fun i hi => by
    have h := hk5 i N.acts[i] (List.getElem?_eq_getElem hi)
    refine ⟨?_, h.wf, h.len⟩
    rw [h.ref]
    exact (HTWk.out.n1.ok.act _ (List.getElem_mem hi)).ref)
  have h60 := HTWk.out.n1.ok.len
  have HBK := Lib.hid hbk.size
  clear hk4 hk5 hbk HKN HMD hmk HWM HTWm HFm
  go_wp2_with fail
  go_loopw [14, 16, 49] (fun _ _ v49 wx => ∃ o : Nat, o ≤ N.acts.length ∧ v49 = .int .i64 (o : Int) ∧ Hid (LvAt wk wx w4.heap.size (o * 60000000000060) (liveR K N.acts.length o))) (fun _ _ v49 _ => N.acts.length - (intOf v49).toNat)
  case atStart => exact ⟨0, Nat.zero_le _, rfl, Lib.hid (HLV.out.up (Nat.zero_le _) (fun _ => rfl))⟩
  case round =>
    obtain ⟨wo, hwo⟩ : ∃ wo : World, wo = wr := ⟨_, rfl⟩
    subst hwo
    obtain ⟨o, ho, rfl, HLo⟩ := hrel
    by_cases hlto : o < N.acts.length
    · have o1 : (o : Int) < (N.acts.length : Int) := by omega
      go_wp2_with fail
      go_loopw [14, 16, 53] (fun _ _ v53 wx => ∃ i : Nat, i ≤ N.acts.length ∧ v53 = .int .i64 (i : Int) ∧ Hid (LvAt wk wx w4.heap.size (o * 60000000000060 + i * 1000000000001) (liveI K i (liveR K N.acts.length o)))) (fun _ _ v53 _ => N.acts.length - (intOf v53).toNat)
      case atStart => exact ⟨0, Nat.zero_le _, rfl, Lib.hid (HLo.out.up (by omega) (fun _ => rfl))⟩
      case round =>
        obtain ⟨w5, hw5⟩ : ∃ w5 : World, w5 = wr := ⟨_, rfl⟩
        subst hw5
        obtain ⟨i, hi, rfl, HLi⟩ := hrel
        by_cases hlt : i < N.acts.length
        · have hkr := HKR.out.frS HLi.out.fr (fun k hk e => by have := HZM.out; omega)
          obtain ⟨Av, cv, hv, -, -, -⟩ := own_any (hkr.each i hlt)
          obtain ⟨gk, capk, hvk, hgk1, hgk2, _, _⟩ := own_form hkr.row (by omega)
          injection hvk with e1 _ e3
          subst e1 e3
          obtain ⟨kf, hkf⟩ : ∃ r, K i = r := ⟨_, rfl⟩
          have HRO := Lib.hid (hkr.each i hlt)
          rw [hv, hkf] at HRO
          have y0 : w5.cell? ⟨gk, i * 4, none⟩ = some (.int .i64 kf.ref) := by
            have h := own_cellC hkr.row (fun k => rfl) hlt (j := 0) (by omega)
            rw [Nat.add_zero] at h
            rw [h, ← hkf]
            rfl
          have y1 : w5.cell? ⟨gk, i * 4 + 1, none⟩ = some (.bool kf.awake) := by
            have h := own_cellC hkr.row (fun k => rfl) hlt (j := 1) (by omega)
            rw [h, ← hkf]
            rfl
          have y2 : w5.cell? ⟨gk, i * 4 + 2, none⟩ = some (.bool false) := own_cellC hkr.row (fun k => rfl) hlt (j := 2) (by omega)
          have y3 : w5.cell? ⟨gk, i * 4 + 3, none⟩ = some (.slice Av kf.refs.length cv) := by
            have h := own_cellC hkr.row (fun k => rfl) hlt (j := 3) (by omega)
            rw [h, ← hkf, ← hv]
            rfl
          have hwf := HWF.out i hlt
          rw [hkf] at hwf
          have HWI := Lib.hid hwf
          have HKF := Lib.hid hkf
          have HV := Lib.hid hv
          have i1 : (0 : Int) ≤ (i : Int) := by omega
          have i2 : (i : Int) < (N.acts.length : Int) := by omega
          have HLIx := Lib.hid (show ∀ x, liveI K (i + 1) (liveR K N.acts.length o) x = liveK kf (liveI K i (liveR K N.acts.length o)) x from fun x => by rw [← hkf]; rfl)
          generalize liveI K i (liveR K N.acts.length o) = Li at *
          obtain ⟨lb, hlb⟩ : ∃ b, Li kf.ref = b := ⟨_, rfl⟩
          have hlook := (HLi.out.new ((Fr.refl _ _).alloc (.cells #[.int .i64 kf.ref, .bool kf.awake, .bool false, .slice Av kf.refs.length cv] 89))).look hwf.1
          rw [hlb] at hlook
          obtain ⟨w8, hset, hls, hfs⟩ := (HLi.out.new ((Fr.refl _ _).alloc (.cells #[.int .i64 kf.ref, .bool kf.awake, .bool false, .slice Av kf.refs.length cv] 89))).set hwf.1 (by omega)
          have HLS := Lib.hid hls
          have HFS := Lib.hid hfs
          obtain ⟨aw, haw⟩ : ∃ b, kf.awake = b := ⟨_, rfl⟩
          have HAW := Lib.hid haw
          rw [haw] at y1 hlook hset
          have HHIT := Lib.hid (show (aw || lb) = true → ∀ x, liveI K (i + 1) (liveR K N.acts.length o) x = (Li x || x == kf.ref || kf.refs.contains x) from fun e x => by
            rw [HLIx.out, liveK, haw, hlb, if_pos e])
          have HNOT := Lib.hid (show (aw || lb) = false → ∀ x, liveI K (i + 1) (liveR K N.acts.length o) x = Li x from fun e x => by
            rw [HLIx.out, liveK, haw, hlb, if_neg (by rw [e]; decide)])
          clear hkr hv hkf hwf hls hfs hlb haw
          rcases hal : (aw || lb) with _ | _
          · obtain ⟨rfl, rfl⟩ : aw = false ∧ lb = false := by rcases aw with _ | _ <;> rcases lb with _ | _ <;> first | exact ⟨rfl, rfl⟩ | cases hal
            clear hset hal
            go_wp2_with fail
            go_roundw
            case rel => exact ⟨i + 1, by omega, by go_num, Lib.hid ((HLi.out.new (show Fr (fun _ => False) w5 _ by (repeat' first | with_reducible exact Fr.refl _ _ | (with_reducible refine Fr.setEq ?_ _) | (with_reducible refine Fr.setNew ?_ _) | with_reducible refine Fr.alloc ?_ _ | with_reducible refine Fr.drewN ?_ _ | with_reducible refine Fr.drew ?_))).up (by omega) (HNOT.out rfl))⟩
            case measure => simp [intOf]; omega
          · have hlmz := HLi.out.lt
            have hbox : CellsN w8 w5.heap.size [.int .i64 kf.ref, .bool aw, .bool false, .slice Av kf.refs.length cv] := by
              have h := (cellsN_new w5 [.int .i64 kf.ref, .bool kf.awake, .bool false, .slice Av kf.refs.length cv] 89).fr HFS.out (fun e => by omega)
              rw [HAW.out] at h
              exact h
            have b3 := hbox.1 3 _ rfl
            have bl := hbox.2.2
            have HL8 := Lib.hid (show LvAt wk w8 w4.heap.size (o * 60000000000060 + i * 1000000000001 + 1 + 0) (fun x => (Li x || x == kf.ref) || (kf.refs.take 0).contains x) from HLS.out.up (by omega) (fun x => by simp))
            have HHT := Lib.hid (HHIT.out hal)
            clear hbox HHIT HNOT HLi
            have key : True := trivial
            rcases aw with _ | _
            · obtain rfl : lb = true := by simpa using hal
              clear hal
              go_wp2_with fail
              go_loopw [16, 71] (fun _ v71 wx => ∃ j : Nat, j ≤ kf.refs.length ∧ v71 = .int .i64 (j : Int) ∧ Hid (LvAt wk wx w4.heap.size (o * 60000000000060 + i * 1000000000001 + 1 + j) (fun x => (Li x || x == kf.ref) || (kf.refs.take j).contains x))) (fun _ v71 _ => kf.refs.length - (intOf v71).toNat)
              case atStart => exact ⟨0, Nat.zero_le _, rfl, HL8⟩
              case round =>
                obtain ⟨wj, hwj⟩ : ∃ wj : World, wj = wr := ⟨_, rfl⟩
                subst hwj
                obtain ⟨j, hj, rfl, HLj⟩ := hrel
                by_cases hltj : j < kf.refs.length
                · have hkr := (HKR.out.frS HLj.out.fr (fun k hk e => by have := HZM.out; omega)).each i hlt
                  rw [HV.out, HKF.out] at hkr
                  obtain ⟨br, ofr, rfl, hbr, hcr⟩ := hkr.rd (by omega)
                  have cR := hcr j hltj 0 _ rfl
                  simp only [Nat.mul_one, Nat.add_zero] at cR
                  obtain ⟨x, hx⟩ : ∃ x, lst kf.refs j = x := ⟨_, rfl⟩
                  rw [hx] at cR
                  have hxw : Wf x := HWI.out.2.1 x (by
                    rw [← hx]
                    unfold lst
                    rw [List.getD_eq_getElem?_getD, List.getElem?_eq_getElem hltj]
                    exact List.getElem_mem _)
                  have hl3 := HWI.out.2.2
                  obtain ⟨w9, hset2, hls2, hfs2⟩ := HLj.out.set hxw (by omega)
                  have HL9 := Lib.hid (show LvAt wk w9 w4.heap.size (o * 60000000000060 + i * 1000000000001 + 1 + (j + 1)) (fun x => (Li x || x == kf.ref) || (kf.refs.take (j + 1)).contains x) from hls2.up (by omega) (fun y => by
                    rw [take_snoc hltj, hx, Bool.or_assoc, Bool.or_assoc, Bool.or_assoc]))
                  have j1 : (0 : Int) ≤ (j : Int) := by omega
                  have j2 : (j : Int) < (kf.refs.length : Int) := by omega
                  clear hkr hcr hx hxw hls2 hfs2 HLj
                  go_wp2_with fail
                  go_roundw
                  case rel => exact ⟨j + 1, by omega, by go_num, HL9⟩
                  case measure => simp [intOf]; omega
                · obtain rfl : j = kf.refs.length := by omega
                  have hl3 := HWI.out.2.2
                  have HLE := Lib.hid (HLj.out.up (cap' := o * 60000000000060 + (i + 1) * 1000000000001) (by omega) (L' := liveI K (i + 1) (liveR K N.acts.length o)) (fun x => by rw [HHT.out x, List.take_length]))
                  go_wp2_with fail
                  go_roundw
                  case rel => exact ⟨i + 1, by omega, by go_num, HLE⟩
                  case measure => simp [intOf]; omega
            · clear hlook hal
              go_wp2_with fail
              go_loopw [16, 71] (fun _ v71 wx => ∃ j : Nat, j ≤ kf.refs.length ∧ v71 = .int .i64 (j : Int) ∧ Hid (LvAt wk wx w4.heap.size (o * 60000000000060 + i * 1000000000001 + 1 + j) (fun x => (Li x || x == kf.ref) || (kf.refs.take j).contains x))) (fun _ v71 _ => kf.refs.length - (intOf v71).toNat)
              case atStart => exact ⟨0, Nat.zero_le _, rfl, HL8⟩
              case round =>
                obtain ⟨wj, hwj⟩ : ∃ wj : World, wj = wr := ⟨_, rfl⟩
                subst hwj
                obtain ⟨j, hj, rfl, HLj⟩ := hrel
                by_cases hltj : j < kf.refs.length
                · have hkr := (HKR.out.frS HLj.out.fr (fun k hk e => by have := HZM.out; omega)).each i hlt
                  rw [HV.out, HKF.out] at hkr
                  obtain ⟨br, ofr, rfl, hbr, hcr⟩ := hkr.rd (by omega)
                  have cR := hcr j hltj 0 _ rfl
                  simp only [Nat.mul_one, Nat.add_zero] at cR
                  obtain ⟨x, hx⟩ : ∃ x, lst kf.refs j = x := ⟨_, rfl⟩
                  rw [hx] at cR
                  have hxw : Wf x := HWI.out.2.1 x (by
                    rw [← hx]
                    unfold lst
                    rw [List.getD_eq_getElem?_getD, List.getElem?_eq_getElem hltj]
                    exact List.getElem_mem _)
                  have hl3 := HWI.out.2.2
                  obtain ⟨w9, hset2, hls2, hfs2⟩ := HLj.out.set hxw (by omega)
                  have HL9 := Lib.hid (show LvAt wk w9 w4.heap.size (o * 60000000000060 + i * 1000000000001 + 1 + (j + 1)) (fun x => (Li x || x == kf.ref) || (kf.refs.take (j + 1)).contains x) from hls2.up (by omega) (fun y => by
                    rw [take_snoc hltj, hx, Bool.or_assoc, Bool.or_assoc, Bool.or_assoc]))
                  have j1 : (0 : Int) ≤ (j : Int) := by omega
                  have j2 : (j : Int) < (kf.refs.length : Int) := by omega
                  clear hkr hcr hx hxw hls2 hfs2 HLj
                  go_wp2_with fail
                  go_roundw
                  case rel => exact ⟨j + 1, by omega, by go_num, HL9⟩
                  case measure => simp [intOf]; omega
                · obtain rfl : j = kf.refs.length := by omega
                  have hl3 := HWI.out.2.2
                  have HLE := Lib.hid (HLj.out.up (cap' := o * 60000000000060 + (i + 1) * 1000000000001) (by omega) (L' := liveI K (i + 1) (liveR K N.acts.length o)) (fun x => by rw [HHT.out x, List.take_length]))
                  go_wp2_with fail
                  go_roundw
                  case rel => exact ⟨i + 1, by omega, by go_num, HLE⟩
                  case measure => simp [intOf]; omega
        · obtain rfl : i = N.acts.length := by omega
          go_wp2_with fail
          go_roundw
          case rel => exact ⟨o + 1, by omega, by go_num, Lib.hid (HLi.out.up (by omega) (fun _ => rfl))⟩
          case measure => simp [intOf]; omega
    · obtain rfl : o = N.acts.length := by omega
      have HLOK := Lib.hid (live_ok HKO.out)
      have HKRF := Lib.hid (fun (i : Nat) (hi : i < N.acts.length) => kn_ref HKO.out hi)
      generalize liveR K N.acts.length N.acts.length = L at *
      have HTL := Lib.hid (HTWk.out.own HLo.out.fr HLM.out.2.1 HLM.out.2.2 HLM.out.1 (fun h => by have := HML.out.1 _ h; omega) (fun h => by have := HML.out.2 _ h; omega))
      have HKL := Lib.hid (HKR.out.frS HLo.out.fr (fun k hk e => by have := HZM.out; omega))
      have HFL := Lib.hid (HFk.out.trans' (HLo.out.fr.weak (S2 := fun k => w1.heap.size ≤ k) (fun k hk => by rw [hk]; exact HLM.out.1)))
      have HSG := Lib.hid (by
        obtain ⟨c, hs⟩ := HSIM.out
        exact cut_sim hs HLOK.out HRB.out HTWk.out.n1.ok)
      have HRA := Lib.hid (by
        obtain ⟨c, hs⟩ := HSIM.out
        exact And.intro hs.ra hs.srt)
      have HLL := Lib.hid (HLo.out.frS (Fr.refl (fun _ => False) wo) (fun h => h))
      have HGA := Lib.hid (fun (i : Nat) (hi : i < N.acts.length) => gone_at (N := N) (L := L) hi)
      have HGD := Lib.hid (show ∀ x, gone N L x = ((refsN N).contains x && !L x) from fun _ => rfl)
      have HC0 := Lib.hid (cutI_zero (gone N L) N)
      have HCA := Lib.hid (cutI_all (G := gone N L) HRA.out.1)
      have HCS := Lib.hid (fun (i : Nat) (hi : i < N.acts.length) (hg : gone N L (lst (refsN N) i) = false) => cutI_skip hi hg)
      have HCD := Lib.hid (fun (i : Nat) (hi : i < N.acts.length) (hg : gone N L (lst (refsN N) i) = true) => cutI_drop HRA.out.2 hi hg)
      generalize gone N L = G at *
      clear hlto ho HLo HLV HKR HTWk HSIM HLOK HRB HFk HKO HRA
      generalize XW XA w3 wm = X1 at *
      generalize XW X' w3 wm = X2 at *
      go_wp2_with fail
      have HTL0 := Lib.hid (show Two wo w1.heap.size 10000000000 10000000000 p p' P P' X1 M X2 M' N (cutI G N 0) by rw [HC0.out]; exact HTL.out)
      go_loopw [18, 82] (fun _ v82 wx => ∃ (i : Nat) (Pb : Int → Nat) (Xa Xb Mb : Nat → Prop), i ≤ N.acts.length ∧ v82 = .int .i64 (i : Int) ∧ Hid (Two wx w1.heap.size 10000000000 10000000000 p p' P Pb Xa M Xb Mb N (cutI G N i)) ∧ Hid (Fr M' wo wx) ∧ Hid (∀ k, Mb k → M' k ∨ wo.heap.size ≤ k)) (fun _ v82 _ => N.acts.length - (intOf v82).toNat)
      case atStart => exact ⟨0, P', X1, X2, M', Nat.zero_le _, rfl, HTL0, Lib.hid (Fr.refl _ _), Lib.hid (fun k hk => .inl hk)⟩
      case round =>
        clear HTL0
        obtain ⟨w5, hw5⟩ : ∃ w5 : World, w5 = wr := ⟨_, rfl⟩
        subst hw5
        obtain ⟨i, Pb, Xa, Xb, Mb, hi, rfl, HTi, HFi, HMi⟩ := hrel
        by_cases hlt : i < N.acts.length
        · have hkr := HKL.out.frS HFi.out (fun k hk e => by have := HZM.out; have := HML.out.2 k e; omega)
          obtain ⟨Av, cv, hv, -, -, -⟩ := own_any (hkr.each i hlt)
          obtain ⟨gk, capk, hvk, hgk1, hgk2, _, _⟩ := own_form hkr.row (by omega)
          injection hvk with e1 _ e3
          subst e1 e3
          obtain ⟨kf, hkf⟩ : ∃ r, K i = r := ⟨_, rfl⟩
          have y0 : w5.cell? ⟨gk, i * 4, none⟩ = some (.int .i64 kf.ref) := by
            have h := own_cellC hkr.row (fun k => rfl) hlt (j := 0) (by omega)
            rw [Nat.add_zero] at h
            rw [h, ← hkf]
            rfl
          have y1 : w5.cell? ⟨gk, i * 4 + 1, none⟩ = some (.bool kf.awake) := by
            have h := own_cellC hkr.row (fun k => rfl) hlt (j := 1) (by omega)
            rw [h, ← hkf]
            rfl
          have y2 : w5.cell? ⟨gk, i * 4 + 2, none⟩ = some (.bool false) := own_cellC hkr.row (fun k => rfl) hlt (j := 2) (by omega)
          have y3 : w5.cell? ⟨gk, i * 4 + 3, none⟩ = some (.slice Av kf.refs.length cv) := by
            have h := own_cellC hkr.row (fun k => rfl) hlt (j := 3) (by omega)
            rw [h, ← hkf, ← hv]
            rfl
          have hwf := HWF.out i hlt
          have hre := HKRF.out i hlt
          rw [hkf] at hwf hre
          have hga := HGA.out i hlt
          rw [← hre] at hga
          have HWI := Lib.hid hwf.1
          have i1 : (0 : Int) ≤ (i : Int) := by omega
          have i2 : (i : Int) < (N.acts.length : Int) := by omega
          obtain ⟨lb, hlb⟩ : ∃ b, L kf.ref = b := ⟨_, rfl⟩
          have hlook := ((HLL.out.frS HFi.out (fun h => by have := HML.out.2 _ h; omega)).new ((Fr.refl _ _).alloc (.cells #[.int .i64 kf.ref, .bool kf.awake, .bool false, .slice Av kf.refs.length cv] 89))).look hwf.1
          rw [hlb] at hlook hga
          have HRE := Lib.hid hre
          have HGI := Lib.hid hga
          clear hkr hv hkf hwf hlb hre hga
          rcases lb with _ | _
          · obtain ⟨hhas, hcut⟩ := HCD.out i hlt (by rw [← HRE.out]; exact HGI.out)
            rw [← HRE.out] at hhas hcut
            have HDR := Lib.hid (fun (W9 : World) (hf : Fr (fun _ => False) w5 W9) => drop_any (HTi.out.n2.new hf (fun _ h => h)) kf.ref HWI.out)
            rw [if_pos hhas, ← hcut] at HDR
            clear hhas hcut
            go_wp2_with fail
            refine (HDR.out _ (by (repeat' first | with_reducible exact Fr.refl _ _ | (with_reducible refine Fr.setEq ?_ _) | (with_reducible refine Fr.setNew ?_ _) | with_reducible refine Fr.alloc ?_ _ | with_reducible refine Fr.drewN ?_ _ | with_reducible refine Fr.drew ?_))).mono ?_
            rintro e w6 ⟨rfl, X6, M6, hg6, hn6⟩
            have hf56 : Fr (fun _ => False) w5 _ := (show Fr (fun _ => False) w5 (w5.alloc (.cells #[.int .i64 kf.ref, .bool kf.awake, .bool false, .slice Av kf.refs.length cv] 89)) by (repeat' first | with_reducible exact Fr.refl _ _ | (with_reducible refine Fr.setEq ?_ _) | (with_reducible refine Fr.setNew ?_ _) | with_reducible refine Fr.alloc ?_ _ | with_reducible refine Fr.drewN ?_ _ | with_reducible refine Fr.drew ?_))
            have HT6 := Lib.hid ((HTi.out.new hf56).sym.call hg6 hn6).sym
            have HF6 := Lib.hid (((HFi.out.trans' (hf56.weak (S2 := M') (fun _ h => h.elim))).trans hg6.fr (fun k hk => HMi.out k hk)))
            have HM6 := Lib.hid (show ∀ k, M6 k → M' k ∨ wo.heap.size ≤ k from fun k hk => by
              rcases hg6.ms k hk with h | h
              · exact HMi.out k h
              · have := HFi.out.size
                have := hf56.size
                exact .inr (by omega))
            clear hg6 hn6 hf56 HDR
            go_wp2_with fail
            go_roundw
            case rel => exact ⟨i + 1, Pb, _, X6, M6, by omega, by go_num, HT6, HF6, HM6⟩
            case measure => simp [intOf]; omega
          · have hcut := HCS.out i hlt (by rw [← HRE.out]; exact HGI.out)
            have HTi1 := HTi.out
            rw [← hcut] at HTi1
            have HTJ := Lib.hid HTi1
            clear HTi1 hcut
            go_wp2_with fail
            go_roundw
            case rel => exact ⟨i + 1, Pb, Xa, Xb, Mb, by omega, by go_num, Lib.hid (HTJ.out.new (show Fr (fun _ => False) w5 _ by (repeat' first | with_reducible exact Fr.refl _ _ | (with_reducible refine Fr.setEq ?_ _) | (with_reducible refine Fr.setNew ?_ _) | with_reducible refine Fr.alloc ?_ _ | with_reducible refine Fr.drewN ?_ _ | with_reducible refine Fr.drew ?_))), Lib.hid (HFi.out.trans' ((show Fr (fun _ => False) w5 _ by (repeat' first | with_reducible exact Fr.refl _ _ | (with_reducible refine Fr.setEq ?_ _) | (with_reducible refine Fr.setNew ?_ _) | with_reducible refine Fr.alloc ?_ _ | with_reducible refine Fr.drewN ?_ _ | with_reducible refine Fr.drew ?_)).weak (S2 := M') (fun _ h => h.elim))), HMi⟩
            case measure => simp [intOf]; omega
        · obtain rfl : i = N.acts.length := by omega
          have hca : cutI G N N.acts.length = cutG G N := HCA.out
          rw [hca] at HTi
          have HNO := Lib.hid (show ∀ k, w4.heap.size ≤ k → ¬ (M k ∨ M' k) from fun k hk h => by
            rcases h with h | h
            · have := HML.out.1 k h; omega
            · have := HML.out.2 k h; omega)
          have HLOW := Lib.hid (show ∀ k, M k ∨ M' k → w1.heap.size ≤ k from fun k hk => by
            rcases hk with h | h
            · exact (HTL.out.n1.2.2.1 k h).2
            · exact (HTL.out.n2.2.2.1 k h).2)
          have HF50 := Lib.hid (HFi.out.weak (S2 := fun k => M k ∨ M' k) (fun k hk => .inr hk))
          have HM50 := Lib.hid (show ∀ k, M k ∨ Mb k → (M k ∨ M' k) ∨ wo.heap.size ≤ k from fun k hk => by
            rcases hk with h | h
            · exact .inl (.inl h)
            · exact (HMi.out k h).imp .inr id)
          have HRDM := Lib.hid (show Rd W 4 (fun k => ddC (nthDd mo k)) A4 mo.length from by
            obtain ⟨_, _, e, _, _, h, _⟩ := HMO.out
            injection e with e1 _ _
            subst e1
            exact h)
          have HDW := Lib.hid (show ∀ k, k < mo.length → DdWf (nthDd mo k) from by
            obtain ⟨_, _, e, _, _, _, h⟩ := HMO.out
            exact h)
          have hML2 : mo.length ≤ 9223372036854775807 := by
            obtain ⟨_, _, e, g1, g2, _⟩ := HMO.out
            omega
          have HTD := Lib.hid (show Two w5 w1.heap.size (10000000000 + 100000000 * min 0 30) (10000000000 + 100000000 * min 0 30) p p' P Pb Xa M Xb Mb N (cutG G N) from HTi.out)
          have HEND := Lib.hid (show ∀ W9, Fr (fun k => w1.heap.size ≤ k) w1 W9 → Below W.heap.size W W9 from fun W9 hf => (HF1.out.trans' (hf.weak (S2 := fun k => W.heap.size ≤ k) (fun k hk => Nat.le_trans HF1.out.size hk))).below (fun k hk => hk) (Nat.le_refl _))
          have HAN := Lib.hid (fun (r : Int) => any_refs HKRF.out r)
          generalize cutG G N = NC at *
          clear HTi HFi HMi HTL hca hlt hi HCA HCS HCD HC0 HMO HWF HKRF HGA HLW HTT HSC HDL HLM
          go_wp2_with fail
          go_loopw [19, 20, 101] (fun _ _ v101 wx => ∃ (i : Nat) (Qa Qb : Int → Nat) (Ya Ma Yb Mc : Nat → Prop) (Na Nb : NdS), i ≤ mo.length ∧ v101 = .int .i64 (i : Int) ∧ Hid (Two wx w1.heap.size (10000000000 + 100000000 * min i 30) (10000000000 + 100000000 * min i 30) p p' Qa Qb Ya Ma Yb Mc Na Nb) ∧ Hid (Sim G Na.acts.length Na Nb) ∧ Hid (Na.fuel ≤ 20) ∧ Hid (AllA TkOk Na) ∧ Hid (Fr (fun k => M k ∨ M' k) wo wx) ∧ Hid (∀ k, Ma k ∨ Mc k → (M k ∨ M' k) ∨ wo.heap.size ≤ k)) (fun _ _ v101 _ => mo.length - (intOf v101).toNat)
          case atStart => exact ⟨0, P, Pb, Xa, M, Xb, Mb, N, NC, Nat.zero_le _, rfl, HTD, HSG, HFU, HTK, HF50, HM50⟩
          case round =>
            clear HTD HSG HFU HTK HF50 HM50
            obtain ⟨wd, hwd⟩ : ∃ wd : World, wd = wr := ⟨_, rfl⟩
            subst hwd
            obtain ⟨i, Qa, Qb, Ya, Ma, Yb, Mc, Na, Nb, hi, rfl, HTi, HSi, HFUi, HTKi, HFi, HMi⟩ := hrel
            have hlim4 : min i 30 ≤ 30 := Nat.min_le_right _ _
            have HFW := Lib.hid (HFL.out.trans' (HFi.out.weak (S2 := fun k => w1.heap.size ≤ k) (fun k hk => HLOW.out k hk)))
            by_cases hlt : i < mo.length
            · obtain ⟨bd, od, rfl, hbl, hcell⟩ := HRDM.out (by omega)
              have hfr : Fr (fun k => W.heap.size ≤ k) W wd := HF1.out.trans' (HFW.out.weak (S2 := fun k => W.heap.size ≤ k) (fun k hk => Nat.le_trans HF1.out.size hk))
              have hnb : ¬ W.heap.size ≤ bd := by omega
              obtain ⟨d, hd⟩ : ∃ d, nthDd mo i = d := ⟨_, rfl⟩
              have hc := hcell i hlt
              have hdwi := HDW.out i hlt
              dsimp only at hc
              rw [hd] at hc hdwi
              have c0 : wd.cell? ⟨bd, od + i * 4, none⟩ = some (.int .i64 d.kind) := hfr.cell (hc 0 _ rfl) hnb
              have c1 : wd.cell? ⟨bd, od + i * 4 + 1, none⟩ = some (.int .i64 d.n) := hfr.cell (hc 1 _ rfl) hnb
              have c2 : wd.cell? ⟨bd, od + i * 4 + 2, none⟩ = some (.int .i64 d.ref) := hfr.cell (hc 2 _ rfl) hnb
              have c3 : wd.cell? ⟨bd, od + i * 4 + 3, none⟩ = some (.int .i64 d.num) := hfr.cell (hc 3 _ rfl) hnb
              have hbr : bd < wd.heap.size := Nat.lt_of_lt_of_le hbl hfr.size
              have j1 : (0 : Int) ≤ (i : Int) := by omega
              have j2 : (i : Int) < (mo.length : Int) := by omega
              have HDI := Lib.hid hdwi
              clear hcell hc hfr hnb hd hdwi
              obtain ⟨W6, hW6⟩ : ∃ W6, W6 = wd.alloc (.cells #[.int .i64 d.kind, .int .i64 d.n, .int .i64 d.ref, .int .i64 d.num] 69) := ⟨_, rfl⟩
              have hf6 : Fr (fun _ => False) wd W6 := by rw [hW6]; exact (Fr.refl _ _).alloc _
              have HB6 := Lib.hid (show CellsN W6 wd.heap.size [.int .i64 d.kind, .int .i64 d.n, .int .i64 d.ref, .int .i64 d.num] by rw [hW6]; exact cellsN_new wd _ _)
              have HT6 := Lib.hid (HTi.out.new hf6)
              have HR6 := Lib.hid (refs_any HT6.out.n1)
              have HW6 := Lib.hid hW6
              have HF6 := Lib.hid hf6
              clear hW6 hf6
              go_wp2_with fail
              rw [← HW6.out]
              refine HR6.out.mono ?_
              rintro e w7 ⟨A7, c7, rfl, -, hb7⟩
              have HT7 := Lib.hid (HT6.out.new (Fr.of_below hb7))
              have HB7 := Lib.hid (HB6.out.fr (Fr.of_below (S := fun _ => False) hb7) (fun h => h))
              have HF7 := Lib.hid (HFi.out.trans' ((HF6.out.trans' (Fr.of_below (S := fun _ => False) hb7)).weak (S2 := fun k => M k ∨ M' k) (fun _ h => h.elim)))
              have hz67 : wd.heap.size ≤ w7.heap.size := Nat.le_trans HF6.out.size hb7.size
              clear hb7 HR6 HB6 HT6 HW6 c0 c1 c2 c3
              by_cases h39 : 39 < Na.acts.length
              · have g39 : decide ((39 : Int) < (Na.acts.length : Int)) = true := decide_eq_true (by omega)
                clear h39
                go_wp2_with fail
                refine bodyPost_ret (v := .bool true) (by simp [results, Tryz.results12, go_sem]) rfl ⟨rfl, HEND.out _ ?_⟩
                exact HFL.out.trans' (HF7.out.weak (S2 := fun k => w1.heap.size ≤ k) (fun k hk => HLOW.out k hk))
              · have g39 : decide ((39 : Int) < (Na.acts.length : Int)) = false := decide_eq_false (by omega)
                by_cases h30 : i < 30
                · have g30 : decide ((i : Int) < 30) = true := decide_eq_true (by omega)
                  by_cases hk : d.kind = 3
                  · have e3 : (d.kind == 3) = true := by rw [hk]; decide
                    have hm1 : min (i + 1) 30 = min i 30 + 1 := by omega
                    obtain ⟨cN, hsN⟩ := HSi.out.deed d (.inr ⟨.inl hk, by have := HFUi.out; omega⟩)
                    have HSN := Lib.hid hsN.fit
                    have HFN := Lib.hid (show (doN Na d).fuel ≤ 20 by rw [(doN_fuel Na d).1]; exact HFUi.out)
                    have HTN := Lib.hid (doN_all tk_inv HTKi.out d)
                    have HTNb := Lib.hid (show AllA TkOk Nb from fun b hb => HTKi.out b (by rw [HSi.out.acts] at hb; exact (List.mem_filter.1 hb).1))
                    have HDO := Lib.hid (do_any HT7.out.n1 HTKi.out d HDI.out (by omega))
                    unfold ddC at HDO
                    have b0 := HB7.out.1 0 _ rfl
                    have b1 := HB7.out.1 1 _ rfl
                    have b2 := HB7.out.1 2 _ rfl
                    have b3 := HB7.out.1 3 _ rfl
                    have bl := HB7.out.2.2
                    have e4 : True := trivial
                    clear hsN h30 hk
                    go_wp2_with fail
                    refine HDO.out.mono ?_
                    rintro e w8 ⟨rfl, P8, X8, M8, hg8, hn8⟩
                    have HT8 := Lib.hid (HT7.out.call hg8 hn8)
                    have HB8 := Lib.hid (HB7.out.fr hg8.fr (fun hm => by
                      have := HTi.out.n1.xlt _ (HTi.out.n1.2.2.1 _ hm).1
                      omega))
                    have HF8 := Lib.hid (HF7.out.trans hg8.fr (fun k hk => HMi.out k (.inl hk)))
                    have HM8 := Lib.hid (show ∀ k, M8 k → (M k ∨ M' k) ∨ wo.heap.size ≤ k from fun k hk => by
                      rcases hg8.ms k hk with h | h
                      · exact HMi.out k (.inl h)
                      · have := HFi.out.size
                        exact .inr (by omega))
                    have HDO2 := Lib.hid (do_any HT8.out.n2 HTNb.out d HDI.out (by omega))
                    unfold ddC at HDO2
                    have HG8S := hg8.fr.size
                    clear b0 b1 b2 b3 bl hg8 hn8 HDO
                    have b0 := HB8.out.1 0 _ rfl
                    have b1 := HB8.out.1 1 _ rfl
                    have b2 := HB8.out.1 2 _ rfl
                    have b3 := HB8.out.1 3 _ rfl
                    have bl := HB8.out.2.2
                    have hz78 : w7.heap.size ≤ w8.heap.size := HG8S
                    go_wp2_with fail
                    refine HDO2.out.mono ?_
                    rintro e w9 ⟨rfl, P9, X9, M9, hg9, hn9⟩
                    have HT9 := Lib.hid (HT8.out.sym.call hg9 hn9).sym
                    have HF9 := Lib.hid (HF8.out.trans hg9.fr (fun k hk => HMi.out k (.inr hk)))
                    have HM9 := Lib.hid (show ∀ k, M8 k ∨ M9 k → (M k ∨ M' k) ∨ wo.heap.size ≤ k from fun k hk => by
                      rcases hk with hk | hk
                      · exact HM8.out k hk
                      · rcases hg9.ms k hk with h | h
                        · exact HMi.out k (.inr h)
                        · have := HFi.out.size
                          exact .inr (by omega))
                    clear b0 b1 b2 b3 bl hg9 hn9 HDO2
                    go_wp2_with fail
                    go_roundw
                    case rel =>
                      refine ⟨i + 1, P8, P9, XW X8 w8 w9, M8, X9, M9, doN Na d, doN Nb d, by omega, by go_num, Lib.hid ?_, HSN, HFN, HTN, HF9, HM9⟩
                      rw [hm1, show 10000000000 + 100000000 * (min i 30 + 1) = 10000000000 + 100000000 * min i 30 + 100000000 by omega]
                      exact HT9.out
                    case measure => simp [intOf]; omega
                  · have e3 : (d.kind == 3) = false := by simpa using hk
                    by_cases hk4 : d.kind = 4
                    · have e5 : (d.kind == 4) = true := by rw [hk4]; decide
                      have hm1 : min (i + 1) 30 = min i 30 + 1 := by omega
                      obtain ⟨cN, hsN⟩ := HSi.out.deed d (.inr ⟨.inr hk4, by have := HFUi.out; omega⟩)
                      have HSN := Lib.hid hsN.fit
                      have HFN := Lib.hid (show (doN Na d).fuel ≤ 20 by rw [(doN_fuel Na d).1]; exact HFUi.out)
                      have HTN := Lib.hid (doN_all tk_inv HTKi.out d)
                      have HTNb := Lib.hid (show AllA TkOk Nb from fun b hb => HTKi.out b (by rw [HSi.out.acts] at hb; exact (List.mem_filter.1 hb).1))
                      have HDO := Lib.hid (do_any HT7.out.n1 HTKi.out d HDI.out (by omega))
                      unfold ddC at HDO
                      have b0 := HB7.out.1 0 _ rfl
                      have b1 := HB7.out.1 1 _ rfl
                      have b2 := HB7.out.1 2 _ rfl
                      have b3 := HB7.out.1 3 _ rfl
                      have bl := HB7.out.2.2
                      have e4 : True := trivial
                      clear hk4
                      clear hsN h30 hk
                      go_wp2_with fail
                      refine HDO.out.mono ?_
                      rintro e w8 ⟨rfl, P8, X8, M8, hg8, hn8⟩
                      have HT8 := Lib.hid (HT7.out.call hg8 hn8)
                      have HB8 := Lib.hid (HB7.out.fr hg8.fr (fun hm => by
                        have := HTi.out.n1.xlt _ (HTi.out.n1.2.2.1 _ hm).1
                        omega))
                      have HF8 := Lib.hid (HF7.out.trans hg8.fr (fun k hk => HMi.out k (.inl hk)))
                      have HM8 := Lib.hid (show ∀ k, M8 k → (M k ∨ M' k) ∨ wo.heap.size ≤ k from fun k hk => by
                        rcases hg8.ms k hk with h | h
                        · exact HMi.out k (.inl h)
                        · have := HFi.out.size
                          exact .inr (by omega))
                      have HDO2 := Lib.hid (do_any HT8.out.n2 HTNb.out d HDI.out (by omega))
                      unfold ddC at HDO2
                      have HG8S := hg8.fr.size
                      clear b0 b1 b2 b3 bl hg8 hn8 HDO
                      have b0 := HB8.out.1 0 _ rfl
                      have b1 := HB8.out.1 1 _ rfl
                      have b2 := HB8.out.1 2 _ rfl
                      have b3 := HB8.out.1 3 _ rfl
                      have bl := HB8.out.2.2
                      have hz78 : w7.heap.size ≤ w8.heap.size := HG8S
                      go_wp2_with fail
                      refine HDO2.out.mono ?_
                      rintro e w9 ⟨rfl, P9, X9, M9, hg9, hn9⟩
                      have HT9 := Lib.hid (HT8.out.sym.call hg9 hn9).sym
                      have HF9 := Lib.hid (HF8.out.trans hg9.fr (fun k hk => HMi.out k (.inr hk)))
                      have HM9 := Lib.hid (show ∀ k, M8 k ∨ M9 k → (M k ∨ M' k) ∨ wo.heap.size ≤ k from fun k hk => by
                        rcases hk with hk | hk
                        · exact HM8.out k hk
                        · rcases hg9.ms k hk with h | h
                          · exact HMi.out k (.inr h)
                          · have := HFi.out.size
                            exact .inr (by omega))
                      clear b0 b1 b2 b3 bl hg9 hn9 HDO2
                      go_wp2_with fail
                      go_roundw
                      case rel =>
                        refine ⟨i + 1, P8, P9, XW X8 w8 w9, M8, X9, M9, doN Na d, doN Nb d, by omega, by go_num, Lib.hid ?_, HSN, HFN, HTN, HF9, HM9⟩
                        rw [hm1, show 10000000000 + 100000000 * (min i 30 + 1) = 10000000000 + 100000000 * min i 30 + 100000000 by omega]
                        exact HT9.out
                      case measure => simp [intOf]; omega
                    · have e4 : (d.kind == 4) = false := by simpa using hk4
                      clear hk hk4
                      have b0 := HB7.out.1 0 _ rfl
                      have bl := HB7.out.2.2
                      go_wp2_with fail
                      go_roundw
                      case rel => exact ⟨i + 1, Qa, Qb, Ya, Ma, Yb, Mc, Na, Nb, by omega, by go_num, Lib.hid (HT7.out.up2 (by omega)), HSi, HFUi, HTKi, HF7, HMi⟩
                      case measure => simp [intOf]; omega
                · have g30 : decide ((i : Int) < 30) = false := decide_eq_false (by omega)
                  clear h30
                  have b0 := HB7.out.1 0 _ rfl
                  have bl := HB7.out.2.2
                  go_wp2_with fail
                  go_roundw
                  case rel => exact ⟨i + 1, Qa, Qb, Ya, Ma, Yb, Mc, Na, Nb, by omega, by go_num, Lib.hid (HT7.out.up2 (by omega)), HSi, HFUi, HTKi, HF7, HMi⟩
                  case measure => simp [intOf]; omega
            · obtain rfl : i = mo.length := by omega
              have j2 : decide ((mo.length : Int) < (mo.length : Int)) = false := decide_eq_false (by omega)
              have HR6 := Lib.hid (refs_any HTi.out.n1)
              have HLW := Lib.hid (HLL.out.frS HFi.out (HNO.out _ (Nat.le_refl _)))
              have HKW := Lib.hid (HKL.out.frS HFi.out (fun k hk => HNO.out k (by have := HZM.out; omega)))
              have hna60 := HTi.out.n1.ok.len
              have HACT := Lib.hid (show ∀ k, k < Na.acts.length → Wf (lst (refsN Na) k) from fun k hk => by
                have hm : lst (refsN Na) k ∈ refsN Na := by
                  unfold lst
                  rw [List.getD_eq_getElem?_getD, List.getElem?_eq_getElem (by rw [refsN_len]; exact hk)]
                  exact List.getElem_mem _
                obtain ⟨a, ha, e⟩ := has_iff.1 (mem_refsN.1 hm)
                exact e ▸ (HTi.out.n1.ok.act a ha).ref)
              clear hlt
              go_wp2_with fail
              refine HR6.out.mono ?_
              rintro e w6 ⟨A6, c6, rfl, hO6, hb6⟩
              have HO6 := Lib.hid hO6
              have HF6 := Lib.hid (Fr.of_below (S := fun _ => False) hb6)
              clear hO6 hb6 HR6
              go_wp2_with fail
              go_loopw [21, 23, 132] (fun v21 _ v132 wx => ∃ (i : Nat) (R : List Int) (AL : Option Addr) (cL : Nat), i ≤ Na.acts.length ∧ v132 = .int .i64 (i : Int) ∧ v21 = .slice AL R.length cL ∧ R.length ≤ i ∧ Hid (R = ((refsN Na).take i).filter fun x => !G x) ∧ Hid (OwnI wx w6.heap.size (.slice AL R.length cL) R) ∧ Hid (Fr (fun _ => False) w6 wx)) (fun _ _ v132 _ => Na.acts.length - (intOf v132).toNat)
              case atStart => exact ⟨0, [], none, 0, Nat.zero_le _, rfl, rfl, Nat.le_refl _, Lib.hid (by simp), Lib.hid (OwnI.nil _ _), Lib.hid (Fr.refl _ _)⟩
              case round =>
                obtain ⟨wx, hwx⟩ : ∃ wx : World, wx = wr := ⟨_, rfl⟩
                subst hwx
                obtain ⟨i, R, AL, cL, hi2, rfl, rfl, hRi, HRE, HOx, HFx⟩ := hrel
                by_cases hlt2 : i < Na.acts.length
                · obtain ⟨br, ofr, rfl, hbr, hcr⟩ := (HO6.out.fr HFx.out (fun _ _ h => h)).rd (by rw [refsN_len]; omega)
                  have cR := hcr i (by rw [refsN_len]; exact hlt2) 0 _ rfl
                  simp only [Nat.mul_one, Nat.add_zero] at cR
                  have hwf := HACT.out i hlt2
                  have hfs := filter_snoc (p := fun x => !G x) (l := refsN Na) (i := i) (by rw [refsN_len]; exact hlt2)
                  rw [← HRE.out] at hfs
                  obtain ⟨r, hr⟩ : ∃ r, lst (refsN Na) i = r := ⟨_, rfl⟩
                  rw [hr] at cR hwf hfs
                  have HFS := Lib.hid hfs
                  have k1 : (0 : Int) ≤ (i : Int) := by omega
                  have k2 : (i : Int) < (Na.acts.length : Int) := by omega
                  have hz6x := HFx.out.size
                  obtain ⟨lb, hlb⟩ : ∃ b, L r = b := ⟨_, rfl⟩
                  have hlook := (((HLW.out.new HF6.out).new HFx.out).new ((Fr.refl _ _).alloc (.cells #[.int .i64 r] 3))).look hwf
                  rw [hlb] at hlook
                  have HGR := Lib.hid (HGD.out r)
                  rw [hlb] at HGR
                  have HON := Lib.hid (HOx.out.alloc (.cells #[.int .i64 r] 3))
                  have hzn : (wx.alloc (.cells #[.int .i64 r] 3)).heap.size = wx.heap.size + 1 := by simp
                  clear hcr hr hlb hfs hwf
                  rcases lb with _ | _
                  · have HHK := Lib.hid (hasK_any (((HKW.out.new HF6.out).new HFx.out).new ((Fr.refl _ _).alloc (.cells #[.int .i64 r] 3))) (by omega) r wx.heap.size (by simp) (by simp [go_sem]))
                    rw [HAN.out r] at HHK
                    obtain ⟨cb, hcb⟩ : ∃ b, (refsN N).contains r = b := ⟨_, rfl⟩
                    rw [hcb] at HHK HGR
                    clear hcb HON hzn
                    rcases cb with _ | _
                    · have HRI := Lib.hid (show R ++ [r] = ((refsN Na).take (i + 1)).filter fun x => !G x by rw [HFS.out, HGR.out]; rfl)
                      go_wp2_with fail
                      refine HHK.out.mono ?_
                      rintro e w7 ⟨rfl, hb7⟩
                      have HFW8 := Lib.hid (((Fr.refl (fun _ => False) wx).alloc (.cells #[.int .i64 r] 3)).trans' (Fr.of_below (S := fun _ => False) hb7))
                      have HON := Lib.hid (HFW8.out.row HOx.out (fun _ _ h => h))
                      have x0 := (Fr.of_below (S := fun _ => False) hb7).cell (show (wx.alloc (.cells #[.int .i64 r] 3)).cell? ⟨wx.heap.size, 0, none⟩ = some (.int .i64 r) by simp [go_sem]) (fun h => h)
                      have xl : wx.heap.size < w7.heap.size := World.block_lt_of_cell? w7 _ x0
                      have hzw7 : w6.heap.size ≤ w7.heap.size := by omega
                      clear hb7 HHK hlook
                      go_wp2_with (at_builtin; go_loud (refine wpList_append_int rfl _ _ rfl w6.heap.size (.slice AL R.length cL) R rfl HON.out w7.heap.size rfl r rfl (by omega) (by omega) ?_; intro v8 w8 hO8 hg8 hat8; have HO8 := Lib.hid hO8; have HG8 := Lib.hid hg8; clear hO8 hg8 hat8))
                      obtain ⟨A8, c8, hv8, -, -, -⟩ := own_any HO8.out
                      have hl8 : (R ++ [r]).length = R.length + 1 := by simp
                      have hO8 := HO8.out
                      rw [hv8] at hO8
                      refine ⟨⟨i + 1, R ++ [r], A8, c8, by omega, by go_num, hv8, by omega, Lib.hid (HRI.out), Lib.hid hO8, Lib.hid ?_⟩, by simp [intOf]; omega⟩
                      refine (HFx.out.trans' HFW8.out).trans (S2 := fun k => w6.heap.size ≤ k) ?_ (fun k hk => .inr hk)
                      exact Fr.of_grown HG8.out (fun k hk => .inl (HOx.out.blk k hk).1)
                    · have HRI := Lib.hid (show R = ((refsN Na).take (i + 1)).filter fun x => !G x by rw [HFS.out, HGR.out]; simp)
                      go_wp2_with fail
                      refine HHK.out.mono ?_
                      rintro e w7 ⟨rfl, hb7⟩
                      have HFW8 := Lib.hid (((Fr.refl (fun _ => False) wx).alloc (.cells #[.int .i64 r] 3)).trans' (Fr.of_below (S := fun _ => False) hb7))
                      have HON := Lib.hid (HFW8.out.row HOx.out (fun _ _ h => h))
                      have HF7 := Lib.hid (HFx.out.trans' HFW8.out)
                      clear hb7 HHK hlook
                      go_wp2_with fail
                      go_roundw
                      case rel => exact ⟨i + 1, R, AL, cL, by omega, by go_num, rfl, by omega, HRI, HON, HF7⟩
                      case measure => simp [intOf]; omega
                  · have HRI := Lib.hid (show R ++ [r] = ((refsN Na).take (i + 1)).filter fun x => !G x by rw [HFS.out, HGR.out]; simp)
                    have HFW8 := Lib.hid ((Fr.refl (fun _ => False) wx).alloc (.cells #[.int .i64 r] 3))
                    go_wp2_with (at_builtin; go_loud (refine wpList_append_int rfl _ _ rfl w6.heap.size (.slice AL R.length cL) R rfl HON.out (wx.heap.size + 1) hzn r rfl (by omega) (by omega) ?_; intro v8 w8 hO8 hg8 hat8; have HO8 := Lib.hid hO8; have HG8 := Lib.hid hg8; clear hO8 hg8 hat8))
                    obtain ⟨A8, c8, hv8, -, -, -⟩ := own_any HO8.out
                    have hl8 : (R ++ [r]).length = R.length + 1 := by simp
                    have hO8 := HO8.out
                    rw [hv8] at hO8
                    refine ⟨⟨i + 1, R ++ [r], A8, c8, by omega, by go_num, hv8, by omega, Lib.hid (HRI.out), Lib.hid hO8, Lib.hid ?_⟩, by simp [intOf]; omega⟩
                    refine (HFx.out.trans' HFW8.out).trans (S2 := fun k => w6.heap.size ≤ k) ?_ (fun k hk => .inr hk)
                    exact Fr.of_grown HG8.out (fun k hk => .inl (HOx.out.blk k hk).1)
                · obtain rfl : i = Na.acts.length := by omega
                  have hR : R = refsN Nb := by
                    have h := HRE.out
                    rw [List.take_of_length_le (by rw [refsN_len]; omega)] at h
                    rw [h, HSi.out.refs]
                  subst hR
                  have HTx := Lib.hid ((HTi.out.new HF6.out).new HFx.out)
                  have HFX := Lib.hid (HFL.out.trans' ((HFi.out.weak (S2 := fun k => w1.heap.size ≤ k) (fun k hk => HLOW.out k hk)).trans' ((HF6.out.trans' HFx.out).weak (S2 := fun k => w1.heap.size ≤ k) (fun _ h => h.elim))))
                  have HMZ := Lib.hid (show (∀ k, Ma k → k < w6.heap.size) ∧ ∀ k, Mc k → k < w6.heap.size from ⟨fun k hk => Nat.lt_of_lt_of_le (HTi.out.n1.xlt k (HTi.out.n1.2.2.1 k hk).1) HF6.out.size, fun k hk => Nat.lt_of_lt_of_le (HTi.out.n2.xlt k (HTi.out.n2.2.2.1 k hk).1) HF6.out.size⟩)
                  have HSD := Lib.hid (said_any HTx.out.n1 (by omega))
                  have HSS := Lib.hid HSi.out.said
                  have HSO := Lib.hid HSi.out.out
                  clear hlt2 HTi HFi HF6 HO6 HSi HFUi HTKi HACT HLW HKW HKL HLL HRE hRi
                  go_wp2_with fail
                  refine HSD.out.mono ?_
                  rintro e w7 ⟨A7, c7, rfl, hO7, hb7⟩
                  have HT7 := Lib.hid (HTx.out.new (Fr.of_below hb7))
                  have HF7 := Lib.hid (HFX.out.trans' ((Fr.of_below (S := fun _ => False) hb7).weak (S2 := fun k => w1.heap.size ≤ k) (fun _ h => h.elim)))
                  have HO7 := Lib.hid hO7
                  have HOa := Lib.hid (show OwnI w7 w6.heap.size (.slice AL (refsN Nb).length cL) (refsN Nb) from (Fr.of_below (S := fun _ => False) hb7).row HOx.out (fun _ _ h => h))
                  have HSD2 := Lib.hid (said_any HT7.out.n2 (by omega))
                  rw [HSS.out] at HSD2
                  have hz67 : w6.heap.size ≤ w7.heap.size := by have := HFx.out.size; have := hb7.size; omega
                  clear hO7 hb7 HSD HTx HFX HOx HFx
                  go_wp2_with fail
                  refine HSD2.out.mono ?_
                  rintro e w8 ⟨A8, c8, rfl, hO8, hb8⟩
                  have HT8 := Lib.hid (HT7.out.new (Fr.of_below hb8))
                  have HF8 := Lib.hid (HF7.out.trans' ((Fr.of_below (S := fun _ => False) hb8).weak (S2 := fun k => w1.heap.size ≤ k) (fun _ h => h.elim)))
                  have HOb := Lib.hid (show OwnI w8 w6.heap.size (.slice AL (refsN Nb).length cL) (refsN Nb) from (Fr.of_below (S := fun _ => False) hb8).row HOa.out (fun _ _ h => h))
                  have HEQ := Lib.hid (equalSd_same A7 A8 Na.said.length Na.said.length c7 c8 Na.said w8 rfl rfl (by
                    obtain ⟨_, _, e, g1, g2, _⟩ := own_any hO8
                    omega) (OwnSd.rd (HO7.out.below hb8)).2 (OwnSd.rd hO8).2)
                  clear hO8 hb8 HSD2 HO7 HT7 HF7 HOa
                  go_wp2_with fail
                  refine HEQ.out.mono ?_
                  rintro e w9 ⟨rfl, hb9⟩
                  have HT9 := Lib.hid (HT8.out.new (Fr.of_below hb9))
                  have HF9 := Lib.hid (HF8.out.trans' ((Fr.of_below (S := fun _ => False) hb9).weak (S2 := fun k => w1.heap.size ≤ k) (fun _ h => h.elim)))
                  have HOc := Lib.hid (show OwnI w9 w6.heap.size (.slice AL (refsN Nb).length cL) (refsN Nb) from (Fr.of_below (S := fun _ => False) hb9).row HOb.out (fun _ _ h => h))
                  have HU1 := Lib.hid (out_any2 HT9.out.n1)
                  clear hb9 HEQ HT8 HF8 HOb
                  go_wp2_with fail
                  refine HU1.out.mono ?_
                  rintro e w12 ⟨A12, c12, S12, M12, rfl, gl1, gl2, hrd, hS, hg12, hn12⟩
                  have HT12 := Lib.hid (HT9.out.call hg12 hn12)
                  have HRD := Lib.hid hrd
                  have HS12 := Lib.hid (show ∀ k, S12 k → ¬ Mc k from fun k hk hm => by
                    rcases hS k hk with h | h
                    · exact h (HT9.out.a21.sub k hm).1
                    · exact HT9.out.a12.dis k h hm)
                  have HF12 := Lib.hid (HF9.out.trans' (hg12.fr.weak (S2 := fun k => w1.heap.size ≤ k) (fun k hk => (HT9.out.n1.2.2.1 k hk).2)))
                  have HOd := Lib.hid (show OwnI w12 w6.heap.size (.slice AL (refsN Nb).length cL) (refsN Nb) from hg12.fr.row HOc.out (fun k hk hm => by have h1 := (HOc.out.blk k hk).1; have := HMZ.out.1 k hm; omega))
                  have HU2 := Lib.hid (out_any2 HT12.out.n2)
                  unfold OutPost2 at HU2
                  rw [HSO.out] at HU2
                  clear hrd hS hg12 hn12 HU1 HOc HF9
                  go_wp2_with fail
                  refine HU2.out.mono ?_
                  rintro e w13 ⟨A13, c13, S13, M13, rfl, gm1, gm2, hrd13, -, hg13, hn13⟩
                  have HT13 := Lib.hid (HT12.out.sym.call hg13 hn13).sym
                  have HF13 := Lib.hid (HF12.out.trans' (hg13.fr.weak (S2 := fun k => w1.heap.size ≤ k) (fun k hk => (HT12.out.n2.2.2.1 k hk).2)))
                  have HOe := Lib.hid (show OwnI w13 w6.heap.size (.slice AL (refsN Nb).length cL) (refsN Nb) from hg13.fr.row HOd.out (fun k hk hm => by have h1 := (HOd.out.blk k hk).1; have := HMZ.out.2 k hm; omega))
                  have HSM := Lib.hid (sameLs_self (c := c12) (d := c13) (by omega) (HRD.out.frame (S' := S12) hg13.fr.size (fun b hb hlt => ⟨hb, hg13.fr.block b hlt (HS12.out b hb)⟩)) hrd13)
                  clear hrd13 hg13 hn13 HU2 HOd HF12 HT12 HT9
                  go_wp2_with fail
                  refine HSM.out.mono ?_
                  rintro e w14 ⟨rfl, hb14⟩
                  have HT14 := Lib.hid (HT13.out.new (Fr.of_below hb14))
                  have HF14 := Lib.hid (HF13.out.trans' ((Fr.of_below (S := fun _ => False) hb14).weak (S2 := fun k => w1.heap.size ≤ k) (fun _ h => h.elim)))
                  have HOf := Lib.hid (show OwnI w14 w6.heap.size (.slice AL (refsN Nb).length cL) (refsN Nb) from (Fr.of_below (S := fun _ => False) hb14).row HOe.out (fun _ _ h => h))
                  have HRM := Lib.hid (refs_any HT14.out.n2)
                  have hen : (outN Nb).acts.length = (refsN Nb).length := by rw [refsN_len]; rfl
                  have hen2 : refsN (outN Nb) = refsN Nb := rfl
                  rw [hen, hen2] at HRM
                  have hnb60 : (refsN Nb).length ≤ 60 := by rw [← hen]; exact HT14.out.n2.ok.len
                  clear hb14 HSM HT13 HF13 HOe hen hen2
                  go_wp2_with fail
                  refine HRM.out.mono ?_
                  rintro e w15 ⟨A15, c15, rfl, hO15, hb15⟩
                  have HF15 := Lib.hid (HF14.out.trans' ((Fr.of_below (S := fun _ => False) hb15).weak (S2 := fun k => w1.heap.size ≤ k) (fun _ h => h.elim)))
                  have HEQ := Lib.hid (equalI_own rfl ((Fr.of_below (S := fun _ => False) hb15).row HOf.out (fun _ _ h => h)) hO15 (by omega))
                  clear hO15 hb15 HRM HOf
                  go_wp2_with fail
                  refine HEQ.out.mono ?_
                  rintro e w16 ⟨rfl, hb16⟩
                  have HF16 := Lib.hid (HF15.out.trans' ((Fr.of_below (S := fun _ => False) hb16).weak (S2 := fun k => w1.heap.size ≤ k) (fun _ h => h.elim)))
                  clear hb16 HEQ
                  go_wp2_with fail
                  refine bodyPost_ret (v := .bool true) (by simp [results, Tryz.results12, go_sem]) rfl ⟨rfl, HEND.out _ HF16.out⟩
end Go.Proofs.YtjjfglbcikaicaaGreat
