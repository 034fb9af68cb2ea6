/- A cluster with live lines: what flows out of a node: where it goes, and what a node's letters are. Deeds of a cluster's nodes, one by one: what a deed makes of a node's row, and what it adds to the air. Nodes of pumps and sinks: what a turn sends. A new cluster: what its rounds keep. A new cluster: what it makes; and that it is a quiet one in the end. -/
import Derived.Test.YthgbcgphkddmgaaGreatZBL
import Derived.Test.YthgbcgphkddmgaaGreatZBE
namespace Go.Proofs.YthgbcgphkddmgaaGreat
open Go.RowKit Go.Maps
set_option linter.unusedVariables false
set_option linter.unusedSimpArgs false
theorem und_mii : Tryz.prog.underlying 83 = some (.map 3 3) := Tryz.underlying83
set_option maxRecDepth 100000 in
set_option maxHeartbeats 4000000 in
theorem home_any (p mo : Nat) (d : Nat) (w : World) (c6 : w.cell? ⟨p, 6, none⟩ = some (.map (some mo))) (ho : OwnM w mo 0 (fun _ => none)) (hd : d < 2097152) :
    Calls Tryz.prog 70 #[.pointer (some ⟨p, 0, none⟩), .int .i64 (d : Int)] w fun e w' => e = .returned (.int .i64 ((d / 1000 : Nat) : Int)) ∧ w' = w := by
  have hl := ho.look_ok und_mii zero_int (x := (d : Int)) (Wf.of (by omega) (by omega))
  simp only [Option.map_none, Option.getD_none, Option.isSome_none] at hl
  have e1 : (d : Int).tdiv 1000 = ((d / 1000 : Nat) : Int) := rfl
  have HE := Lib.hid e1
  have hw : IntKind.i64.wrap ((d : Int).tdiv 1000) = (d : Int).tdiv 1000 := by rw [e1, IntWalk.i64_in _ (by omega)]
  clear ho e1
  go_enter Tryz.func70, Tryz.ntmps70
  go_wp2_with fail
  refine bodyPost_ret (v := .int .i64 ((d : Int).tdiv 1000)) (by simp [results, Tryz.results70, go_sem]) rfl ⟨?_, rfl⟩
  rw [HE.out]
/-- a letter as a node has it -/
def flT (f : FL) : LT := ⟨1, (f.frm : Int), (f.dst : Int), 0, ⟨#[]⟩, vLeaf 2 (f.num : Int)⟩
theorem isL_flT {w : World} {S : Nat → Prop} {f : FL} {cs : List Value} (h : (flT f).isL w S cs) : ∃ z, (∃ A c, z = .slice A 0 c) ∧ cs = letC f z := by
  obtain ⟨k2, m2, s2, A2, n2, c2, rfl, hv⟩ := h
  obtain ⟨A, c, e, -⟩ := hv
  injection e with e1 e
  injection e with e2 e
  injection e with e3 e
  injection e with e4 e
  rw [e1, e2, e3, e4]
  exact ⟨_, ⟨A, c, rfl⟩, rfl⟩
theorem nthL_flT (L : List FL) {j : Nat} (h : j < L.length) : nthL (L.map flT) j = flT (flN L j) := by
  unfold nthL flN
  rw [List.getD_eq_getElem?_getD, List.getElem?_map, List.getElem?_eq_getElem h, List.getD_eq_getElem?_getD, List.getElem?_eq_getElem h]
  rfl
theorem out_cells {w : World} {S : Nat → Prop} {A : Option Addr} {L : List FL} (h : RdL w S A L.length (nthL (L.map flT))) (h0 : 0 < L.length) : ∃ b off, A = some ⟨b, off, none⟩ ∧ b < w.heap.size ∧ S b ∧ ∀ j, j < L.length → ∃ z, (∃ A c, z = .slice A 0 c) ∧ ∀ q u, (letC (flN L j) z)[q]? = some u → w.cell? ⟨b, off + j * 9 + q, none⟩ = some u := by
  obtain ⟨b, off, hA, hb, hS, C, hC⟩ := h h0
  refine ⟨b, off, hA, hb, hS, fun j hj => ?_⟩
  obtain ⟨h1, h2⟩ := hC j hj
  rw [nthL_flT L hj] at h1
  obtain ⟨z, hz, e⟩ := isL_flT h1
  rw [e] at h2
  exact ⟨z, hz, h2⟩
/-- a node's letters wait for their lines -/
def routeS (i : Nat) (C : GcS) (L : List FL) : GcS := { C with wt := fun a b => if a = i then C.wt a b ++ L.filter (fun f => f.dst / 1000 == b + 1) else C.wt a b }
theorem routeS_nil (i : Nat) (C : GcS) : routeS i C [] = C := by
  have : (fun a b => if a = i then C.wt a b ++ ([] : List FL).filter (fun f => f.dst / 1000 == b + 1) else C.wt a b) = C.wt := by
    funext a b
    split <;> simp
  unfold routeS
  rw [this]
theorem routeS_snoc (i k : Nat) (C : GcS) (L : List FL) (x : FL) (hx : x.dst / 1000 = k + 1) : { routeS i C L with wt := upd2 (routeS i C L).wt i k ((routeS i C L).wt i k ++ [x]) } = routeS i C (L ++ [x]) := by
  unfold routeS
  have : upd2 (fun a b => if a = i then C.wt a b ++ L.filter (fun f => f.dst / 1000 == b + 1) else C.wt a b) i k ((if i = i then C.wt i k ++ L.filter (fun f => f.dst / 1000 == k + 1) else C.wt i k) ++ [x]) = (fun a b => if a = i then C.wt a b ++ (L ++ [x]).filter (fun f => f.dst / 1000 == b + 1) else C.wt a b) := by
    funext a b
    by_cases e : a = i ∧ b = k
    · obtain ⟨rfl, rfl⟩ := e
      rw [upd2_self, if_pos rfl, if_pos rfl, List.filter_append]
      simp [hx]
    · rw [upd2_ne _ _ e]
      by_cases e1 : a = i
      · have : b ≠ k := fun e2 => e ⟨e1, e2⟩
        rw [if_pos e1, if_pos e1, List.filter_append]
        have h2 : (x.dst / 1000 == b + 1) = false := by
          rw [hx]
          simp
          omega
        simp [h2]
      · rw [if_neg e1, if_neg e1]
  dsimp only
  rw [this]
/-- all lines of a node are filled -/
def fillTo (i : Nat) : Nat → GcS → GcS
  | 0, C => C
  | m + 1, C => if m = i then fillTo i m C else fillS i m (fillTo i m C)
theorem fillTo_n (i : Nat) (C : GcS) : ∀ m, (fillTo i m C).n = C.n
  | 0 => rfl
  | m + 1 => by
    unfold fillTo
    split
    · exact fillTo_n i C m
    · exact fillTo_n i C m
theorem fillTo_rest (i : Nat) (C : GcS) : ∀ m k, m ≤ k → (fillTo i m C).wt i k = C.wt i k ∧ (fillTo i m C).tr i k = C.tr i k
  | 0, _, _ => ⟨rfl, rfl⟩
  | m + 1, k, h => by
    have h1 := fillTo_rest i C m k (by omega)
    unfold fillTo
    split
    · exact h1
    · refine ⟨Eq.trans ?_ h1.1, Eq.trans ?_ h1.2⟩
      · exact upd2_ne _ _ (fun e => by omega)
      · exact upd2_ne _ _ (fun e => by omega)
def flowS (i : Nat) (C : GcS) (L : List FL) : GcS := fillTo i C.n (routeS i { C with nd := updN C.nd i (outN (C.nd i)) } L)
def GcPost (X Mc : Nat → Prop) (base T : Nat) (bl : CBk → Nat) (pn : Nat → Nat) (C' : GcS) (w : World) (v : Value) (e : Ending) (w' : World) : Prop :=
  e = .returned v ∧ ∃ X' Mc', Gr X Mc w X' Mc' w' ∧ GcAt w' X' Mc' base T bl pn C'
end Go.Proofs.YthgbcgphkddmgaaGreat
namespace Go.Proofs.YthgbcgphkddmgaaGreat
open Go.RowKit
set_option linter.unusedVariables false
set_option linter.unusedSimpArgs false
/-- what a node has -/
structure RowS where
  nd : NdS
  en : Nat → EnS
  wt : Nat → List FL
  tr : Nat → List FL
def rowOf (C : GcS) (i : Nat) : RowS := ⟨C.nd i, C.en i, C.wt i, C.tr i⟩
abbrev AirS := List ((Nat × Nat) × PK)
def fillR (k : Nat) (r : RowS) : RowS × List PK :=
  let p := pourL (r.en k) (r.wt k) (r.tr k)
  ({ r with en := updN r.en k p.1.outE, wt := updN r.wt k p.2.1, tr := updN r.tr k p.2.2 }, p.1.outs)
def fillRs (i : Nat) : Nat → RowS → RowS × AirS
  | 0, r => (r, [])
  | m + 1, r =>
    if m = i then fillRs i m r else ((fillR m (fillRs i m r).1).1, (fillRs i m r).2 ++ (fillR m (fillRs i m r).1).2.map fun p => ((i, m), p))
def flowR (n i : Nat) (r : RowS) (L : List FL) : RowS × AirS := fillRs i n { r with nd := outN r.nd, wt := fun b => r.wt b ++ L.filter (fun f => f.dst / 1000 == b + 1) }
/-- a node's letters, as they are sent -/
def outL (l : List LT) : List FL := l.map fun x => ⟨x.frm.toNat, x.to.toNat, (vnum x.val).toNat⟩
theorem outL_flT (L : List FL) : outL (L.map flT) = L := by
  unfold outL
  rw [List.map_map]
  have : ((fun x : LT => (⟨x.frm.toNat, x.to.toNat, (vnum x.val).toNat⟩ : FL)) ∘ flT) = id := by
    funext f
    cases f
    simp [flT, vLeaf, vnum]
  rw [this, List.map_id]
def turnR (n i : Nat) (r : RowS) : RowS × AirS :=
  if (turnN r.nd).2.2 = 0 then flowR n i { r with nd := (turnN r.nd).1 } (outL (turnN r.nd).1.out) else ({ r with nd := (turnN r.nd).1 }, [])
def tickR (n i : Nat) (r : RowS) : RowS × AirS := flowR n i { r with nd := tickN r.nd, en := fun b => (r.en b).tick } (outL (tickN r.nd).out)
/-- a deed of a node: a tick, or a turn -/
def deedR (n : Nat) (p : Nat × Bool) (r : RowS) : RowS × AirS := if p.2 then tickR n p.1 r else turnR n p.1 r
def turnS (i : Nat) (C : GcS) : GcS :=
  if (turnN (C.nd i)).2.2 = 0 then flowS i { C with nd := updN C.nd i (turnN (C.nd i)).1, ll := C.ll + 1 } (outL (turnN (C.nd i)).1.out) else { C with nd := updN C.nd i (turnN (C.nd i)).1 }
def tickS (i : Nat) (C : GcS) : GcS :=
  flowS i { C with nd := updN C.nd i (tickN (C.nd i)), en := fun a b => if a = i then (C.en a b).tick else C.en a b, ll := C.ll + 1 } (outL (tickN (C.nd i)).out)
def deedS (p : Nat × Bool) (C : GcS) : GcS := if p.2 then tickS p.1 C else turnS p.1 C
/-- row i is r, the others are as in C, and E has come into the air -/
structure Row1 (i : Nat) (C C' : GcS) (r : RowS) (E : AirS) : Prop where
  n : C'.n = C.n
  row : rowOf C' i = r
  oth : ∀ j, j ≠ i → rowOf C' j = rowOf C j
  air : C'.air = C.air ++ E
def RowB (r : RowS) : Prop := ∀ k, (r.en k).out.length ≤ 8
theorem pourL_len : ∀ (e : EnS) (l t : List FL), e.out.length ≤ 8 → (pourL e l t).1.out.length ≤ 8
  | e, [], t, h => h
  | e, x :: l, t, h => by
    unfold pourL
    split
    · exact h
    · refine pourL_len _ _ _ ?_
      show (e.out ++ [(x, false)]).length ≤ 8
      rw [List.length_append]
      simp
      omega
theorem fillR_B {k : Nat} {r : RowS} (h : RowB r) : RowB (fillR k r).1 ∧ (fillR k r).2.length ≤ 8 := by
  have h1 := pourL_len (r.en k) (r.wt k) (r.tr k) (h k)
  refine ⟨fun j => ?_, EnS.outs_len _ h1⟩
  show (updN r.en k (pourL (r.en k) (r.wt k) (r.tr k)).1.outE j).out.length ≤ 8
  by_cases e : j = k
  · subst e
    rw [updN_self]
    show (sentTo _ _).length ≤ 8
    rw [sentTo_len]
    exact h1
  · rw [updN_ne _ _ e]
    exact h j
theorem fillRs_B (i : Nat) : ∀ (m : Nat) (r : RowS), RowB r → RowB (fillRs i m r).1 ∧ (fillRs i m r).2.length ≤ 8 * (if i < m then m - 1 else m)
  | 0, r, h => ⟨h, by simp [fillRs]⟩
  | m + 1, r, h => by
    obtain ⟨h1, h2⟩ := fillRs_B i m r h
    obtain ⟨h3, h4⟩ := fillR_B (k := m) h1
    unfold fillRs
    by_cases e : m = i
    · rw [if_pos e]
      refine ⟨h1, ?_⟩
      rw [if_neg (by omega)] at h2
      rw [if_pos (by omega)]
      omega
    · rw [if_neg e]
      refine ⟨h3, ?_⟩
      show ((fillRs i m r).2 ++ _).length ≤ _
      rw [List.length_append, List.length_map]
      by_cases e2 : i < m
      · rw [if_pos e2] at h2
        rw [if_pos (by omega)]
        omega
      · rw [if_neg e2] at h2
        rw [if_neg (by omega)]
        omega
theorem airL_all (i k : Nat) : ∀ (l : List PK) (a : AirS), a.length + l.length ≤ 400 → airL i k a l = a ++ l.map fun p => ((i, k), p)
  | [], a, _ => by simp [airL]
  | p :: l, a, h => by
    simp only [List.length_cons] at h
    unfold airL
    rw [if_pos (by omega), airL_all i k l _ (by simp; omega)]
    simp
theorem updN_row {α : Type} (f : Nat → Nat → α) (i k : Nat) (v : α) : upd2 f i k v i = updN (f i) k v := by
  funext y
  unfold upd2 updN
  by_cases e : y = k
  · rw [if_pos ⟨rfl, e⟩, if_pos e]
  · rw [if_neg (fun h => e h.2), if_neg e]
theorem upd2_oth {α : Type} (f : Nat → Nat → α) {i j : Nat} (k : Nat) (v : α) (h : j ≠ i) : upd2 f i k v j = f j := by
  funext y
  exact upd2_ne _ _ (fun e => h e.1)
theorem fillS_row {i k : Nat} {C : GcS} (hB : RowB (rowOf C i)) (hA : C.air.length + 8 ≤ 400) : Row1 i C (fillS i k C) (fillR k (rowOf C i)).1 ((fillR k (rowOf C i)).2.map fun p => ((i, k), p)) := by
  have h2 := (fillR_B (k := k) hB).2
  refine ⟨rfl, ?_, fun j hj => ?_, ?_⟩
  · unfold rowOf fillS fillR
    simp only [updN_row]
  · unfold rowOf fillS
    simp only [upd2_oth _ _ _ hj]
  · show airL i k C.air _ = _
    refine airL_all i k _ _ ?_
    have h2' : (pourL (C.en i k) (C.wt i k) (C.tr i k)).1.outs.length ≤ 8 := h2
    show C.air.length + (pourL (C.en i k) (C.wt i k) (C.tr i k)).1.outs.length ≤ 400
    omega
theorem fillTo_row (i : Nat) {C : GcS} (hB : RowB (rowOf C i)) : ∀ m, C.air.length + 8 * (if i < m then m - 1 else m) ≤ 400 → Row1 i C (fillTo i m C) (fillRs i m (rowOf C i)).1 (fillRs i m (rowOf C i)).2
  | 0, _ => ⟨rfl, rfl, fun _ _ => rfl, by simp [fillTo, fillRs]⟩
  | m + 1, hA => by
    have hm := fillRs_B i m _ hB
    by_cases e : m = i
    · have h := fillTo_row i hB m (by
        rw [if_pos (by omega)] at hA
        rw [if_neg (by omega)]
        omega)
      unfold fillTo fillRs
      rw [if_pos e, if_pos e]
      exact h
    · have h := fillTo_row i hB m (by split at hA <;> split <;> omega)
      unfold fillTo fillRs
      rw [if_neg e, if_neg e]
      have h1 := fillS_row (i := i) (k := m) (C := fillTo i m C) (by rw [h.row]; exact hm.1) (by
        rw [h.air, List.length_append]
        have := hm.2
        by_cases e2 : i < m
        · rw [if_pos e2] at this
          rw [if_pos (by omega)] at hA
          omega
        · rw [if_neg e2] at this
          rw [if_neg (by omega)] at hA
          omega)
      rw [h.row] at h1
      exact ⟨h1.n.trans h.n, h1.row, fun j hj => (h1.oth j hj).trans (h.oth j hj), by rw [h1.air, h.air, List.append_assoc]⟩
theorem flowS_row {i : Nat} {C : GcS} (L : List FL) (hi : i < C.n) (hB : RowB (rowOf C i)) (hA : C.air.length + 8 * (C.n - 1) ≤ 400) : Row1 i C (flowS i C L) (flowR C.n i (rowOf C i) L).1 (flowR C.n i (rowOf C i) L).2 := by
  obtain ⟨D, hD⟩ : ∃ D, D = routeS i { C with nd := updN C.nd i (outN (C.nd i)) } L := ⟨_, rfl⟩
  have hr : rowOf D i = { rowOf C i with nd := outN (rowOf C i).nd, wt := fun b => (rowOf C i).wt b ++ L.filter (fun f => f.dst / 1000 == b + 1) } := by
    rw [hD]
    unfold rowOf routeS
    simp only [updN_self, if_true]
  have ho : ∀ j, j ≠ i → rowOf D j = rowOf C j := fun j hj => by
    rw [hD]
    unfold rowOf routeS
    simp only [updN_ne _ _ hj, if_neg hj]
  have hn : D.n = C.n := by rw [hD]; rfl
  have ha : D.air = C.air := by rw [hD]; rfl
  have h := fillTo_row i (C := D) (by rw [hr]; exact hB) C.n (by rw [if_pos hi, ha]; exact hA)
  unfold flowS flowR
  rw [← hD, ← hr]
  exact ⟨h.n.trans hn, h.row, fun j hj => (h.oth j hj).trans (ho j hj), by rw [h.air, ha]⟩
theorem deedS_row {p : Nat × Bool} {C : GcS} (hi : p.1 < C.n) (hB : RowB (rowOf C p.1)) (hA : C.air.length + 8 * (C.n - 1) ≤ 400) : Row1 p.1 C (deedS p C) (deedR C.n p (rowOf C p.1)).1 (deedR C.n p (rowOf C p.1)).2 := by
  unfold deedS deedR
  split
  · obtain ⟨D, hD⟩ : ∃ D : GcS, D = { C with nd := updN C.nd p.1 (tickN (C.nd p.1)), en := fun a b => if a = p.1 then (C.en a b).tick else C.en a b, ll := C.ll + 1 } := ⟨_, rfl⟩
    have hr : rowOf D p.1 = { rowOf C p.1 with nd := tickN (rowOf C p.1).nd, en := fun b => ((rowOf C p.1).en b).tick } := by
      rw [hD]
      unfold rowOf
      simp only [updN_self, if_true]
    have ho : ∀ j, j ≠ p.1 → rowOf D j = rowOf C j := fun j hj => by
      rw [hD]
      unfold rowOf
      simp only [updN_ne _ _ hj, if_neg hj]
    have h := flowS_row (i := p.1) (C := D) (outL (tickN (C.nd p.1)).out) (by rw [hD]; exact hi) (by
      rw [hr]
      intro k
      show ((C.en p.1 k).tick).out.length ≤ 8
      unfold EnS.tick
      simp only [List.length_map]
      exact hB k) (by rw [hD]; exact hA)
    unfold tickS tickR
    rw [← hD]
    rw [hr] at h
    have hn : D.n = C.n := by rw [hD]
    rw [hn] at h
    exact ⟨h.n.trans hn, h.row, fun j hj => (h.oth j hj).trans (ho j hj), by rw [h.air, hD]; rfl⟩
  · unfold turnS turnR
    show Row1 p.1 C (if (turnN (C.nd p.1)).2.2 = 0 then _ else _) (if (turnN (C.nd p.1)).2.2 = 0 then _ else _ : RowS × AirS).1 (if (turnN (C.nd p.1)).2.2 = 0 then _ else _ : RowS × AirS).2
    by_cases e : (turnN (C.nd p.1)).2.2 = 0
    · rw [if_pos e, if_pos e]
      obtain ⟨D, hD⟩ : ∃ D : GcS, D = { C with nd := updN C.nd p.1 (turnN (C.nd p.1)).1, ll := C.ll + 1 } := ⟨_, rfl⟩
      have hr : rowOf D p.1 = { rowOf C p.1 with nd := (turnN (rowOf C p.1).nd).1 } := by
        rw [hD]
        unfold rowOf
        simp only [updN_self]
      have ho : ∀ j, j ≠ p.1 → rowOf D j = rowOf C j := fun j hj => by
        rw [hD]
        unfold rowOf
        simp only [updN_ne _ _ hj]
      have h := flowS_row (i := p.1) (C := D) (outL (turnN (C.nd p.1)).1.out) (by rw [hD]; exact hi) (by rw [hr]; exact hB) (by rw [hD]; exact hA)
      rw [← hD]
      rw [hr] at h
      have hn : D.n = C.n := by rw [hD]
      rw [hn] at h
      exact ⟨h.n.trans hn, h.row, fun j hj => (h.oth j hj).trans (ho j hj), by rw [h.air, hD]; rfl⟩
    · rw [if_neg e, if_neg e]
      refine ⟨rfl, ?_, fun j hj => ?_, (List.append_nil _).symm⟩
      · unfold rowOf
        simp only [updN_self]
      · unfold rowOf
        simp only [updN_ne _ _ hj]
theorem deedR_B {n : Nat} {p : Nat × Bool} {r : RowS} (hi : p.1 < n) (h : RowB r) : RowB (deedR n p r).1 ∧ (deedR n p r).2.length ≤ 8 * (n - 1) := by
  unfold deedR
  split
  · have := fillRs_B p.1 n { { r with nd := tickN r.nd, en := fun b => (r.en b).tick } with nd := outN (tickN r.nd), wt := fun b => r.wt b ++ (outL (tickN r.nd).out).filter (fun f => f.dst / 1000 == b + 1) } (fun k => by
      show ((r.en k).tick).out.length ≤ 8
      unfold EnS.tick
      simp only [List.length_map]
      exact h k)
    rw [if_pos hi] at this
    exact this
  · unfold turnR
    split
    · have := fillRs_B p.1 n { { r with nd := (turnN r.nd).1 } with nd := outN (turnN r.nd).1, wt := fun b => r.wt b ++ (outL (turnN r.nd).1.out).filter (fun f => f.dst / 1000 == b + 1) } h
      rw [if_pos hi] at this
      exact this
    · exact ⟨h, by simp⟩
/-- rows, and an air without end -/
structure PlS where
  R : Nat → RowS
  a : AirS
def stepP (n : Nat) (s : PlS) (p : Nat × Bool) : PlS := ⟨updN s.R p.1 (deedR n p (s.R p.1)).1, s.a ++ (deedR n p (s.R p.1)).2⟩
def playP (n : Nat) (s : PlS) (l : List (Nat × Bool)) : PlS := l.foldl (stepP n) s
structure SameP (s t : PlS) : Prop where
  R : s.R = t.R
  a : s.a.Perm t.a
theorem stepP_same {n : Nat} {s t : PlS} (h : SameP s t) (p : Nat × Bool) : SameP (stepP n s p) (stepP n t p) := by
  unfold stepP
  rw [h.R]
  exact ⟨rfl, h.a.append_right _⟩
theorem playP_same {n : Nat} : ∀ (l : List (Nat × Bool)) {s t : PlS}, SameP s t → SameP (playP n s l) (playP n t l)
  | [], _, _, h => h
  | p :: l, _, _, h => playP_same l (stepP_same h p)
theorem updN_comm {α : Type} (f : Nat → α) {i j : Nat} (u v : α) (h : i ≠ j) : updN (updN f i u) j v = updN (updN f j v) i u := by
  funext x
  unfold updN
  by_cases e : x = j
  · rw [if_pos e, if_neg (fun e2 => h (e2.symm.trans e)), if_pos e]
  · rw [if_neg e]
    by_cases e2 : x = i
    · rw [if_pos e2, if_pos e2]
    · rw [if_neg e2, if_neg e2, if_neg e]
theorem swapP {n : Nat} {s : PlS} {p q : Nat × Bool} (h : p.1 ≠ q.1) : SameP (stepP n (stepP n s p) q) (stepP n (stepP n s q) p) := by
  unfold stepP
  simp only
  rw [updN_ne _ _ (fun e => h e.symm), updN_ne _ _ h, updN_comm _ _ _ h]
  refine ⟨rfl, ?_⟩
  show ((s.a ++ _) ++ _).Perm ((s.a ++ _) ++ _)
  rw [List.append_assoc, List.append_assoc]
  exact List.Perm.append_left _ List.perm_append_comm
theorem swapP_at {n : Nat} {s : PlS} (l m : List (Nat × Bool)) {p q : Nat × Bool} (h : p.1 ≠ q.1) : SameP (playP n s (l ++ p :: q :: m)) (playP n s (l ++ q :: p :: m)) := by
  unfold playP
  rw [List.foldl_append, List.foldl_append]
  exact playP_same m (swapP h)
/-- a cluster's play goes as the rows' -/
theorem play_row : ∀ (l : List (Nat × Bool)) {C : GcS} {s : PlS}, (∀ p, p ∈ l → p.1 < C.n) → (∀ i, rowOf C i = s.R i) → C.air = s.a → (∀ i, RowB (s.R i)) → C.air.length + 8 * (C.n - 1) * l.length ≤ 400 →
    (∀ i, rowOf (l.foldl (fun C p => deedS p C) C) i = (playP C.n s l).R i) ∧ (l.foldl (fun C p => deedS p C) C).air = (playP C.n s l).a ∧ (l.foldl (fun C p => deedS p C) C).n = C.n
  | [], _, _, _, h1, h2, _, _ => ⟨h1, h2, rfl⟩
  | p :: l, C, s, hp, h1, h2, h3, h4 => by
    simp only [List.length_cons, Nat.mul_add, Nat.mul_one] at h4
    have hi := hp p (by simp)
    have hd := deedS_row hi (by rw [h1]; exact h3 _) (by omega)
    have hb := deedR_B (n := C.n) hi (h3 p.1)
    rw [h1] at hd
    have := play_row l (C := deedS p C) (s := stepP C.n s p) (fun q hq => by rw [hd.n]; exact hp q (by simp [hq])) (fun i => by
      unfold stepP
      by_cases e : i = p.1
      · subst e
        simp only [updN_self]
        exact hd.row
      · simp only [updN_ne _ _ e]
        rw [hd.oth i e]
        exact h1 i) (by rw [hd.air, h2]; rfl) (fun i => by
      unfold stepP
      by_cases e : i = p.1
      · subst e
        simp only [updN_self]
        exact hb.1
      · simp only [updN_ne _ _ e]
        exact h3 i) (by
      rw [hd.air, hd.n, List.length_append]
      have := hb.2
      omega)
    rw [hd.n] at this
    exact this
end Go.Proofs.YthgbcgphkddmgaaGreat
namespace Go.Proofs.YthgbcgphkddmgaaGreat
open Go.RowKit
set_option linter.unusedVariables false
set_option linter.unusedSimpArgs false
/-- a runner of a line's law -/
def RvR (n : Nat) (r : RunS) : Prop := r.pump = true → ∃ d base many : Nat, d < n ∧ r.st = [(6, (((d + 1) * 1000 + 1 : Nat) : Int)), (2, (base : Int)), (2, (many : Int))] ∧ base ≤ 500 ∧ many ≤ 8
/-- node i of n, that hosts such runners; at most m letters go out -/
structure RvN (n i : Nat) (N : NdS) (m : Nat) : Prop where
  id : N.id = (i : Int) + 1
  fuel : N.fuel = 3
  homes : ∀ x, N.homes x = none
  acts : ∀ a, a ∈ N.acts → RvR n a.d.r ∧ 0 ≤ a.ref ∧ a.ref < 2097152 ∧ a.ticks ≤ 0
  out : ∃ L : List FL, N.out = L.map flT ∧ L.length ≤ m ∧ ∀ f, f ∈ L → f.ok ∧ ∃ k, k < n ∧ k ≠ i ∧ f.dst / 1000 = k + 1
section
variable {n i m : Nat} {N : NdS}
theorem RvN.up (h : RvN n i N m) {m' : Nat} (hm : m ≤ m') : RvN n i N m' := by
  obtain ⟨L, h1, h2, h3⟩ := h.out
  exact ⟨h.id, h.fuel, h.homes, h.acts, L, h1, by omega, h3⟩
theorem RvN.setA (h : RvN n i N m) {a : ActS} (ha : RvR n a.d.r ∧ 0 ≤ a.ref ∧ a.ref < 2097152 ∧ a.ticks ≤ 0) : RvN n i (N.setA a) m :=
  ⟨h.id, h.fuel, h.homes, fun b hb => by
    rcases mem_setA.1 hb with ⟨c, -, -, e⟩ | ⟨e, -⟩
    · rw [e]; exact ha
    · exact h.acts b e, h.out⟩
theorem RvR.same {d d' : DiaS} (h : RvR n d.r) (hs : SameD d d') : RvR n d'.r := fun hp => by
  rw [hs.pump] at hp
  rw [hs.st]
  exact h hp
theorem wakeA_rv {a : ActS} (h : RvR n a.d.r) : RvR n (wakeA a).1.d.r ∧ (wakeA a).1.ref = a.ref ∧ (wakeA a).1.ticks = a.ticks := by
  unfold wakeA
  split
  · exact ⟨h.same (offerD_same _ _), rfl, rfl⟩
  · split
    · exact ⟨h.same (lateD_same _), rfl, rfl⟩
    · exact ⟨h, rfl, rfl⟩
theorem runR_rv {r : RunS} (h : RvR n r) (f : Nat) : RvR n (runR f r).1 := fun hp => by
  obtain ⟨e1, e2⟩ := runR_st f r
  rw [e2] at hp
  rw [e1]
  exact h hp
theorem runR_send {r : RunS} (h : RvR n r) (f : Nat) (hk : (runR f r).2.kind = 3) : ∃ d num : Nat, d < n ∧ num ≤ 508 ∧ (runR f r).2.num = (((d + 1) * 1000 + 1 : Nat) : Int) ∧ (runR f r).2.vk = 2 ∧ (runR f r).2.vn = (num : Int) := by
  unfold runR at hk ⊢
  split at hk
  · cases hk
  rename_i h0
  rw [if_neg h0]
  split at hk
  · rename_i h1
    rw [if_pos h1]
    obtain ⟨hp, hs⟩ := Bool.and_eq_true_iff.1 h1
    obtain ⟨d, base, many, hd, hst, hb, hm⟩ := h hp
    rw [hst] at hs ⊢
    have hs' := of_decide_eq_true hs
    have e2 : (stN [(6, (((d + 1) * 1000 + 1 : Nat) : Int)), (2, (base : Int)), (2, (many : Int))] 2).2 = (many : Int) := rfl
    rw [e2] at hs'
    refine ⟨d, base + (r.sent + 1), hd, by omega, rfl, rfl, ?_⟩
    show wrap64 ((base : Int) + ((r.sent : Int) + 1)) = _
    unfold wrap64
    omega
  · rename_i h1
    split at hk <;> cases hk
theorem runR_wait (r : RunS) (f : Nat) (hk : (runR f r).2.kind = 7) : (runR f r).2.num = -1 := by
  unfold runR at hk ⊢
  split at hk
  · cases hk
  rename_i h0
  rw [if_neg h0]
  split at hk
  · cases hk
  rename_i h1
  rw [if_neg h1]
  split at hk
  · cases hk
  rename_i h2
  rw [if_neg h2]
  rfl
theorem send_rv (hn : n ≤ 8) (h : RvN n i N m) {f : FL} {d : Nat} (hf : f.ok) (hd : d < n) (he : f.dst = (d + 1) * 1000 + 1) : RvN n i (sendN N (flT f)) (m + 1) := by
  have h1 : N.find (flT f).to = none ∨ ∃ a, N.find (flT f).to = some a := by
    cases N.find (flT f).to with
    | none => exact .inl rfl
    | some a => exact .inr ⟨a, rfl⟩
  unfold sendN sendW
  by_cases hh : N.has (flT f).to = true
  · rw [if_pos hh]
    unfold deliverW
    rw [if_pos (.inl rfl)]
    rcases h1 with h1 | ⟨a, h1⟩
    · rw [h1]; exact h.up (by omega)
    · rw [h1]
      obtain ⟨hm, hr⟩ := find_some h1
      refine RvN.up (h.setA ?_) (by omega)
      unfold putBox
      split
      · exact h.acts a hm
      · exact h.acts a hm
  · rw [if_neg hh]
    have hl : locN N (flT f).to = ((d + 1 : Nat) : Int) := by
      unfold locN
      rw [h.homes]
      have e : ((flT f).to).tdiv 1000 = ((d + 1 : Nat) : Int) := by
        show ((f.dst : Nat) : Int).tdiv 1000 = _
        rw [he]
        show (((((d + 1) * 1000 + 1) / 1000 : Nat)) : Int) = _
        omega
      dsimp only [Option.getD_none]
      rw [e, if_neg (by omega)]
    rw [hl, h.id]
    by_cases e : d = i
    · subst e
      rw [if_neg (fun h => h (by omega))]
      exact h.up (by omega)
    · rw [if_pos (by omega)]
      obtain ⟨L, q1, q2, q3⟩ := h.out
      refine ⟨rfl, h.fuel, h.homes, h.acts, L ++ [f], ?_, by simp; omega, fun x hx => ?_⟩
      · show N.out ++ [flT f] = _
        rw [q1]
        simp
      · rcases List.mem_append.1 hx with hx | hx
        · exact q3 x hx
        · rw [List.mem_singleton] at hx
          subst hx
          exact ⟨hf, d, hd, e, by rw [he]; omega⟩
theorem step_rv (hn : n ≤ 8) (h : RvN n i N m) (ref : Int) : RvN n i (stepN N ref).1 (m + 1) := by
  unfold stepN
  cases hf : N.find ref with
  | none => exact h.up (by omega)
  | some a0 =>
    obtain ⟨hm, hr⟩ := find_some hf
    obtain ⟨ha1, ha2⟩ := h.acts a0 hm
    dsimp only
    have hp : RvR n (if a0.waits = true then wakeA a0 else (a0, true)).1.d.r ∧ (if a0.waits = true then wakeA a0 else (a0, true)).1.ref = a0.ref ∧ (if a0.waits = true then wakeA a0 else (a0, true)).1.ticks = a0.ticks := by
      split
      · exact wakeA_rv ha1
      · exact ⟨ha1, rfl, rfl⟩
    generalize (if a0.waits = true then wakeA a0 else (a0, true)) = p at hp ⊢
    have h1 : RvN n i (N.setA p.1) m := h.setA ⟨hp.1, by rw [hp.2.1, hp.2.2]; exact ha2⟩
    split
    · exact h1.up (by omega)
    · obtain ⟨e1, e2, -⟩ := runD_r N.fuel p.1.d
      have hk := runR_kind N.fuel p.1.d.r
      have hs := runR_send hp.1 N.fuel
      have hw7 := runR_wait p.1.d.r N.fuel
      have hr1 := runR_rv hp.1 N.fuel
      rw [← e1] at hr1
      rw [← e2] at hk hs hw7
      generalize runD N.fuel p.1.d = q at hk hs hr1 hw7 ⊢
      have h2 : RvN n i ((N.setA p.1).setA { p.1 with d := q.1 }) m := h1.setA ⟨hr1, by show 0 ≤ p.1.ref ∧ p.1.ref < 2097152 ∧ p.1.ticks ≤ 0; rw [hp.2.1, hp.2.2]; exact ha2⟩
      rcases hk with hk | hk | hk | ⟨hk, -⟩
      · rw [hk]
        exact h2.up (by omega)
      · rw [hk]
        refine RvN.up (m := m) ?_ (by omega)
        exact ⟨h2.id, h2.fuel, h2.homes, h2.acts, h2.out⟩
      · obtain ⟨d, num, q1, q2, q3, q4, q5⟩ := hs hk
        rw [hk, q3, q4, q5]
        have hx : (⟨1, ref, (((d + 1) * 1000 + 1 : Nat) : Int), 0, ⟨#[]⟩, vLeaf 2 (num : Int)⟩ : LT) = flT ⟨ref.toNat, (d + 1) * 1000 + 1, num⟩ := by
          unfold flT
          rw [Int.toNat_of_nonneg (by rw [← hr]; exact ha2.1)]
        show RvN n i (sendN _ _) (m + 1)
        rw [hx]
        exact send_rv hn h2 (f := ⟨ref.toNat, (d + 1) * 1000 + 1, num⟩) ⟨by rw [hr] at ha2; show ref.toNat < 2097152; have := ha2.2.1; omega, by show (d + 1) * 1000 + 1 < 2097152; omega, by show num < 1000000; omega⟩ q1 rfl
      · rw [hk]
        refine RvN.up (m := m) (h2.setA ?_) (by omega)
        exact ⟨hr1, by show 0 ≤ p.1.ref ∧ p.1.ref < 2097152 ∧ q.2.num ≤ 0; rw [hp.2.1, hw7 hk]; exact ⟨ha2.1, ha2.2.1, by omega⟩⟩
theorem loop_rv (hn : n ≤ 8) : ∀ (k : Nat) {m : Nat} {N : NdS} (h : RvN n i N m) (ref : Int), RvN n i (loopN k N ref) (m + k)
  | 0, m, N, h, ref => h
  | k + 1, m, N, h, ref => by
    unfold loopN
    split
    · split
      · exact RvN.up (loop_rv hn k (step_rv hn h ref) ref) (by omega)
      · exact RvN.up (step_rv hn h ref) (by omega)
    · exact h.up (by omega)
theorem turn_rv (hn : n ≤ 8) (h : RvN n i N 0) : RvN n i (turnN N).1 3 := by
  unfold turnN
  split
  · exact h.up (by omega)
  · have h1 : RvN n i { N with last := nextI (readyN N) N.last } 0 := ⟨h.id, h.fuel, h.homes, h.acts, h.out⟩
    have := loop_rv hn N.fuel h1 (nextI (readyN N) N.last)
    rw [h.fuel] at this ⊢
    exact this
theorem tick_rv (h : RvN n i N m) : RvN n i (tickN N) m := by
  refine ⟨h.id, h.fuel, h.homes, fun a ha => ?_, h.out⟩
  obtain ⟨b, hb, e⟩ := List.mem_map.1 (show a ∈ N.acts.map _ from ha)
  obtain ⟨q1, q2, q3, q4⟩ := h.acts b hb
  rw [← e]
  split
  · exact ⟨q1, q2, q3, by show b.ticks - 1 ≤ 0; omega⟩
  · exact ⟨q1, q2, q3, q4⟩
theorem out_rv (h : RvN n i N m) : RvN n i (outN N) 0 := ⟨h.id, h.fuel, h.homes, h.acts, [], rfl, by simp, fun f hf => by cases hf⟩
/-- the letters that go out -/
theorem RvN.outs (h : RvN n i N m) : N.out = (outL N.out).map flT ∧ (outL N.out).length ≤ m ∧ ∀ f, f ∈ outL N.out → f.ok ∧ ∃ k, k < n ∧ k ≠ i ∧ f.dst / 1000 = k + 1 := by
  obtain ⟨L, h1, h2, h3⟩ := h.out
  have : outL N.out = L := by rw [h1, outL_flT]
  rw [this]
  exact ⟨h1, h2, h3⟩
end
end Go.Proofs.YthgbcgphkddmgaaGreat
namespace Go.Proofs.YthgbcgphkddmgaaGreat.Cx
open Go.RowKit Go.Maps
set_option linter.unusedVariables false
set_option linter.unusedSimpArgs false
/-- what lies in the blocks of a cluster under way, but for its own cells and its lines -/
structure NwK (w : World) (s : Nat) (X0 : Nat → Prop) (b0 : Nat) (ok : CBk → Prop) (bl : CBk → Nat) (i fuel : Nat) (pn lo hi : Nat → Nat) (Pn : Nat → Int → Nat) : Prop where
  nd : ∀ j, j < i → NodeAt w (fun k => X0 k ∨ s ≤ k ∧ k < w.heap.size) (fun k => lo j ≤ k ∧ k < hi j) b0 0 (pn j) (Pn j) (newN ((j : Int) + 1) fuel)
  nms : ∀ j, j < i → Nm.NmAt w (bl (.Tb j)) ((j : Int) + 1) 0 (bl (.Mb j)) (fun _ => none)
  mw : OwnW w (bl .Mw) 0 (fun _ _ => none)
  mt : OwnW w (bl .Mt) 0 (fun _ _ => none)
  mo : OwnM w (bl .Mo) 0 (fun _ => none)
  mh : OwnM w (bl .Mh) 0 (fun _ => none)
  ed : ∀ j k, ok (.Ed j k) → EndQ w (bl (.Ed j k))
  x0 : (∀ k, X0 k → k < s) ∧ b0 ≤ s
/-- how its blocks lie apart -/
structure NwA (w : World) (s : Nat) (ok : CBk → Prop) (bl : CBk → Nat) (i : Nat) (va vb : Value) (lo hi : Nat → Nat) : Prop where
  sz : s ≤ w.heap.size
  pr : ok .P ∧ ok .Me ∧ ok .Mw ∧ ok .Mt ∧ ok .Mo ∧ ok .Mh
  okT : ∀ j, j < i → ok (.Tb j) ∧ ok (.Mb j)
  inj : ∀ a b, ok a → ok b → bl a = bl b → a = b
  lt : ∀ a, ok a → s ≤ bl a ∧ bl a < w.heap.size
  iv : ∀ j, j < i → s ≤ lo j ∧ hi j ≤ w.heap.size
  off : ∀ j a, j < i → ok a → ¬ (lo j ≤ bl a ∧ bl a < hi j)
  dis : ∀ j l, j < i → l < i → j ≠ l → hi j ≤ lo l ∨ hi l ≤ lo j
  fa : ∀ g, va.ownBlock = some g → (∀ a, ok a → bl a ≠ g) ∧ (∀ j, j < i → ¬ (lo j ≤ g ∧ g < hi j)) ∧ s ≤ g ∧ g < w.heap.size
  fb : ∀ g, vb.ownBlock = some g → (∀ a, ok a → bl a ≠ g) ∧ (∀ j, j < i → ¬ (lo j ≤ g ∧ g < hi j)) ∧ s ≤ g ∧ g < w.heap.size
  fab : ∀ g, va.ownBlock = some g → vb.ownBlock ≠ some g
/-- its own cells -/
structure NwP (w : World) (bl : CBk → Nat) (va vb : Value) : Prop where
  c0 : w.cell? ⟨bl .P, 0, none⟩ = some va
  c1 : w.cell? ⟨bl .P, 1, none⟩ = some vb
  c2 : w.cell? ⟨bl .P, 2, none⟩ = some (.map (some (bl .Me)))
  c3 : w.cell? ⟨bl .P, 3, none⟩ = some (.map (some (bl .Mw)))
  c4 : w.cell? ⟨bl .P, 4, none⟩ = some (.map (some (bl .Mt)))
  c5 : w.cell? ⟨bl .P, 5, none⟩ = some (.slice none 0 0)
  c6 : w.cell? ⟨bl .P, 6, none⟩ = some (.map (some (bl .Mo)))
  c7 : w.cell? ⟨bl .P, 7, none⟩ = some (.map (some (bl .Mh)))
  c8 : w.cell? ⟨bl .P, 8, none⟩ = some (.slice none 0 0)
  fz : ∀ o, w.frozen? ⟨bl .P, o, none⟩ = false
theorem NwP.fr {D : Nat → Prop} {w w' : World} {bl : CBk → Nat} {va vb : Value} (h : NwP w bl va vb) (hf : Fr D w w') (hn : ¬ D (bl .P)) : NwP w' bl va vb :=
  ⟨hf.cell h.c0 hn, hf.cell h.c1 hn, hf.cell h.c2 hn, hf.cell h.c3 hn, hf.cell h.c4 hn, hf.cell h.c5 hn, hf.cell h.c6 hn, hf.cell h.c7 hn, hf.cell h.c8 hn, fun o => (hf.frozen (World.block_lt_of_cell? w _ h.c0) hn).trans (h.fz o)⟩
/-- a cluster under way: i nodes; ok: which of its blocks there are -/
structure NwG (w : World) (s : Nat) (X0 : Nat → Prop) (b0 : Nat) (ok : CBk → Prop) (bl : CBk → Nat) (i fuel : Nat) (va vb : Value) (pn lo hi : Nat → Nat) (Pn : Nat → Int → Nat) (nm : Nat) (g : Nat → Nat → Option Value) : Prop where
  a : NwA w s ok bl i va vb lo hi
  k : NwK w s X0 b0 ok bl i fuel pn lo hi Pn
  p : NwP w bl va vb
  ra : w.ownsRow (bl .P + 1) 91 1 va i (ptrs pn i)
  rb : w.ownsRow (bl .P + 1) 94 1 vb i (ptrs (fun j => bl (.Tb j)) i)
  me : OwnW w (bl .Me) nm g
  gv : ∀ x y, x < 9 → y < 9 → (ok (.Ed x y) → g (x + 1) (y + 1) = some (.pointer (some ⟨bl (.Ed x y), 0, none⟩))) ∧ (¬ ok (.Ed x y) → g (x + 1) (y + 1) = none) ∧ g x 0 = none ∧ g 0 y = none
section
variable {w w' : World} {s b0 : Nat} {X0 : Nat → Prop} {ok ok' : CBk → Prop} {bl : CBk → Nat} {i fuel : Nat} {va vb va' vb' : Value} {pn lo hi : Nat → Nat} {Pn : Nat → Int → Nat} {nm : Nat} {g : Nat → Nat → Option Value} {D : Nat → Prop}
theorem NwK.fr (h : NwK w s X0 b0 ok bl i fuel pn lo hi Pn) (ha : NwA w s ok bl i va vb lo hi) (hf : Fr D w w') (hD : ∀ k, D k → k = bl .P ∨ k = bl .Me ∨ va.ownBlock = some k ∨ vb.ownBlock = some k) : NwK w' s X0 b0 ok bl i fuel pn lo hi Pn := by
  have hsz := hf.size
  have hno : ∀ a, ok a → a ≠ .P → a ≠ .Me → ¬ D (bl a) := fun a hok h1 h2 hd => by
    rcases hD _ hd with e | e | e | e
    · exact h1 (ha.inj _ _ hok ha.pr.1 e)
    · exact h2 (ha.inj _ _ hok ha.pr.2.1 e)
    · exact (ha.fa _ e).1 a hok rfl
    · exact (ha.fb _ e).1 a hok rfl
  have hin : ∀ k, D k → s ≤ k ∧ k < w.heap.size := fun k hd => by
    rcases hD _ hd with e | e | e | e
    · subst e; exact ha.lt _ ha.pr.1
    · subst e; exact ha.lt _ ha.pr.2.1
    · exact (ha.fa _ e).2.2
    · exact (ha.fb _ e).2.2
  have hoff : ∀ j, j < i → ∀ k, lo j ≤ k ∧ k < hi j → ¬ D k := fun j hj k hk hd => by
    rcases hD _ hd with e | e | e | e
    · subst e; exact ha.off j _ hj ha.pr.1 hk
    · subst e; exact ha.off j _ hj ha.pr.2.1 hk
    · exact (ha.fa _ e).2.1 j hj hk
    · exact (ha.fb _ e).2.1 j hj hk
  refine ⟨fun j hj => ?_, fun j hj => (h.nms j hj).fr hf (hno _ (ha.okT j hj).1 (by intro e; cases e) (by intro e; cases e)) (hno _ (ha.okT j hj).2 (by intro e; cases e) (by intro e; cases e)), h.mw.fr hf (hno _ ha.pr.2.2.1 (by intro e; cases e) (by intro e; cases e)), h.mt.fr hf (hno _ ha.pr.2.2.2.1 (by intro e; cases e) (by intro e; cases e)), h.mo.fr hf (hno _ ha.pr.2.2.2.2.1 (by intro e; cases e) (by intro e; cases e)), h.mh.fr hf (hno _ ha.pr.2.2.2.2.2 (by intro e; cases e) (by intro e; cases e)), fun j k hk => (h.ed j k hk).fr hf (hno _ hk (by intro e; cases e) (by intro e; cases e)), h.x0⟩
  exact (h.nd j hj).fr hf (fun k hk => ⟨.inr (hin k hk), Nat.le_trans h.x0.2 (hin k hk).1⟩) (fun k hk => by
    rcases hk with hk | hk
    · exact .inl hk
    · exact .inr ⟨hk.1, by omega⟩) (fun k hk => by
    rcases hk with hk | hk
    · exact .inl (.inl hk)
    · by_cases e : k < w.heap.size
      · exact .inl (.inr ⟨hk.1, e⟩)
      · exact .inr ⟨by omega, hk.2⟩) (hoff j hj)
theorem NwA.up (h : NwA w s ok bl i va vb lo hi) (hs : w.heap.size ≤ w'.heap.size) : NwA w' s ok bl i va vb lo hi :=
  ⟨by have := h.sz; omega, h.pr, h.okT, h.inj, fun a ha => by have := h.lt a ha; omega, fun j hj => by have := h.iv j hj; omega, h.off, h.dis, fun g hg => by have := h.fa g hg; exact ⟨this.1, this.2.1, by omega⟩, fun g hg => by have := h.fb g hg; exact ⟨this.1, this.2.1, by omega⟩, h.fab⟩
/-- others write nothing of it -/
theorem NwG.new (h : NwG w s X0 b0 ok bl i fuel va vb pn lo hi Pn nm g) (hf : Fr (fun _ => False) w w') : NwG w' s X0 b0 ok bl i fuel va vb pn lo hi Pn nm g :=
  ⟨h.a.up hf.size, h.k.fr h.a hf (fun _ h => h.elim), h.p.fr hf (fun h => h), hf.row h.ra (fun _ _ h => h), hf.row h.rb (fun _ _ h => h), h.me.fr hf (fun h => h), h.gv⟩
theorem NwG.congr (h : NwG w s X0 b0 ok bl i fuel va vb pn lo hi Pn nm g) (he : ∀ a, ok' a ↔ ok a) : NwG w s X0 b0 ok' bl i fuel va vb pn lo hi Pn nm g := by
  have : ok' = ok := funext fun a => propext (he a)
  rw [this]
  exact h
theorem inj_ext {nw : CBk → Prop} {bl' : CBk → Nat} {B : Nat} (h : ∀ a b, ok a → ok b → bl a = bl b → a = b) (h1 : ∀ a, ok a → bl' a = bl a ∧ bl a < B) (h2 : ∀ a, nw a → B ≤ bl' a) (h3 : ∀ a b, nw a → nw b → bl' a = bl' b → a = b) : ∀ a b, ok a ∨ nw a → ok b ∨ nw b → bl' a = bl' b → a = b := by
  intro a b ha hb e
  rcases ha with ha | ha <;> rcases hb with hb | hb
  · rw [(h1 a ha).1, (h1 b hb).1] at e; exact h a b ha hb e
  · have := h1 a ha; have := h2 b hb; omega
  · have := h1 b hb; have := h2 a ha; omega
  · exact h3 a b ha hb e
def blT (bl : CBk → Nat) (i t m : Nat) : CBk → Nat
  | .Tb j => if j = i then t else bl (.Tb j)
  | .Mb j => if j = i then m else bl (.Mb j)
  | a => bl a
def blE (bl : CBk → Nat) (i k q : Nat) : CBk → Nat
  | .Ed j l => if j = i ∧ l = k then q else bl (.Ed j l)
  | a => bl a
theorem blT_old {a : CBk} {t m : Nat} (h1 : a ≠ .Tb i) (h2 : a ≠ .Mb i) : blT bl i t m a = bl a := by
  cases a <;> try rfl
  · rename_i j
    show (if j = i then t else bl (.Tb j)) = _
    rw [if_neg (fun e => h1 (by rw [e]))]
  · rename_i j
    show (if j = i then m else bl (.Mb j)) = _
    rw [if_neg (fun e => h2 (by rw [e]))]
theorem blE_old {a : CBk} {k q : Nat} (h1 : a ≠ .Ed i k) : blE bl i k q a = bl a := by
  cases a <;> try rfl
  rename_i j l
  show (if j = i ∧ l = k then q else bl (.Ed j l)) = _
  rw [if_neg (fun e => h1 (by rw [e.1, e.2]))]
/-- one more line -/
theorem NwG.line {wa wb : World} {j k q nm' : Nat} {g' : Nat → Nat → Option Value} (h : NwG w s X0 b0 ok bl i fuel va vb pn lo hi Pn nm g) (hf : Fr (fun _ => False) w wa) (hq : EndQ wa q) (hql : w.heap.size ≤ q) (hno : ¬ ok (.Ed j k)) (hk : k < 8 ∧ j < 8)
    (hg : wa.grownBy wb (some (bl .Me))) (ho : OwnW wb (bl .Me) nm' (fun x y => if x = j + 1 ∧ y = k + 1 then some (.pointer (some ⟨q, 0, none⟩)) else g x y)) :
    NwG wb s X0 b0 (fun a => ok a ∨ a = .Ed j k) (blE bl j k q) i fuel va vb pn lo hi Pn nm' (fun x y => if x = j + 1 ∧ y = k + 1 then some (.pointer (some ⟨q, 0, none⟩)) else g x y) := by
  have ha := h.new hf
  have hfb : Fr (fun x => x = bl .Me) wa wb := Fr.of_grown hg (fun b hb => .inl (by injection hb with hb; exact hb.symm))
  have hK := ha.k.fr ha.a hfb (fun k hk => .inr (.inl hk))
  have hbo : ∀ a, ok a → blE bl j k q a = bl a := fun a hok => blE_old (fun e => hno (e ▸ hok))
  have hqa := hq.lt
  have hsb := hfb.size
  have hqm : q ≠ bl .Me := by have := h.a.lt _ h.a.pr.2.1; omega
  have hbe : blE bl j k q (.Ed j k) = q := if_pos ⟨rfl, rfl⟩
  have hpme : bl .P ≠ bl .Me := fun e => by cases h.a.inj _ _ h.a.pr.1 h.a.pr.2.1 e
  refine ⟨⟨?_, ⟨.inl h.a.pr.1, .inl h.a.pr.2.1, .inl h.a.pr.2.2.1, .inl h.a.pr.2.2.2.1, .inl h.a.pr.2.2.2.2.1, .inl h.a.pr.2.2.2.2.2⟩, fun l hl => ⟨.inl (h.a.okT l hl).1, .inl (h.a.okT l hl).2⟩, ?_, fun a hok => ?_, fun l hl => ?_, fun l a hl hok => ?_, h.a.dis, fun b hb => ?_, fun b hb => ?_, h.a.fab⟩, ⟨hK.nd, hK.nms, hK.mw, hK.mt, hK.mo, hK.mh, fun l m hok => ?_, hK.x0⟩, ?_, hfb.row ha.ra (fun b hb e => ?_), ?_, ho, fun x y hx hy => ?_⟩
  · have := ha.a.sz; omega
  · exact inj_ext (B := w.heap.size) h.a.inj (fun a hok => ⟨hbo a hok, (h.a.lt a hok).2⟩) (fun a e => by subst e; rw [hbe]; exact hql) (fun a b e1 e2 _ => e1.trans e2.symm)
  · rcases hok with hok | rfl
    · rw [hbo a hok]; have := ha.a.lt a hok; omega
    · rw [hbe]; have := h.a.sz; omega
  · have := ha.a.iv l hl; omega
  · rcases hok with hok | rfl
    · rw [hbo a hok]; exact h.a.off l a hl hok
    · rw [hbe]; have := h.a.iv l hl; omega
  · have h1 := h.a.fa b hb
    refine ⟨fun a hok => ?_, h1.2.1, by have := hf.size; omega⟩
    rcases hok with hok | rfl
    · rw [hbo a hok]; exact h1.1 a hok
    · rw [hbe]; omega
  · have h1 := h.a.fb b hb
    refine ⟨fun a hok => ?_, h1.2.1, by have := hf.size; omega⟩
    rcases hok with hok | rfl
    · rw [hbo a hok]; exact h1.1 a hok
    · rw [hbe]; omega
  · rcases hok with hok | e
    · rw [hbo _ hok]; exact hK.ed l m hok
    · rw [e, hbe]; exact hq.fr hfb hqm
  · have hp := ha.p.fr hfb hpme
    exact ⟨hp.c0, hp.c1, hp.c2, hp.c3, hp.c4, hp.c5, hp.c6, hp.c7, hp.c8, hp.fz⟩
  · exact (h.a.fa b hb).1 _ h.a.pr.2.1 e.symm
  · have : (fun l => blE bl j k q (.Tb l)) = fun l => bl (.Tb l) := rfl
    rw [this]
    exact hfb.row ha.rb (fun b hb e => (h.a.fb b hb).1 _ h.a.pr.2.1 e.symm)
  · have hxy := h.gv x y hx hy
    refine ⟨fun hok => ?_, fun hnk => ?_, ?_, ?_⟩
    · by_cases e : x = j ∧ y = k
      · obtain ⟨rfl, rfl⟩ := e
        show (if _ then _ else _) = _
        rw [if_pos ⟨rfl, rfl⟩, hbe]
      · show (if _ then _ else _) = _
        rw [if_neg (by omega)]
        rcases hok with hok | e2
        · rw [hbo _ hok]; exact hxy.1 hok
        · injection e2 with e3 e4; exact absurd ⟨e3, e4⟩ e
    · show (if _ then _ else _) = _
      by_cases e : x = j ∧ y = k
      · obtain ⟨rfl, rfl⟩ := e
        exact absurd (.inr rfl) hnk
      · rw [if_neg (by omega)]
        exact hxy.2.1 (fun hok => hnk (.inl hok))
    · show (if _ then _ else _) = _
      rw [if_neg (by omega)]; exact hxy.2.2.1
    · show (if _ then _ else _) = _
      rw [if_neg (by omega)]; exact hxy.2.2.2
/-- one more node -/
theorem NwG.more {w1 w2 : World} {p t m : Nat} {P : Int → Nat} (h : NwG w s X0 b0 ok bl i fuel va vb pn lo hi Pn nm g) (hnT : ¬ ok (.Tb i) ∧ ¬ ok (.Mb i)) (hf1 : Fr (fun _ => False) w w1) (hf2 : Fr (fun _ => False) w1 w2)
    (hN : NodeAt w1 (fun k => X0 k ∨ s ≤ k ∧ k < w1.heap.size) (fun k => w.heap.size ≤ k ∧ k < w1.heap.size) b0 0 p P (newN ((i : Int) + 1) fuel)) (hM : Nm.NmAt w2 t ((i : Int) + 1) 0 m (fun _ => none)) (htm : w1.heap.size ≤ t ∧ w1.heap.size ≤ m ∧ t ≠ m ∧ t < w2.heap.size ∧ m < w2.heap.size)
    (hf : Fr (fun x => x = bl .P ∨ va.ownBlock = some x ∨ vb.ownBlock = some x) w2 w') (hP : NwP w' bl va' vb')
    (ra : w'.ownsRow (bl .P + 1) 91 1 va' (i + 1) (ptrs pn i ++ [.pointer (some ⟨p, 0, none⟩)])) (rb : w'.ownsRow (bl .P + 1) 94 1 vb' (i + 1) (ptrs (fun j => bl (.Tb j)) i ++ [.pointer (some ⟨t, 0, none⟩)]))
    (oa : ∀ g, va'.ownBlock = some g → va.ownBlock = some g ∨ w2.heap.size ≤ g) (ob : ∀ g, vb'.ownBlock = some g → vb.ownBlock = some g ∨ w2.heap.size ≤ g) (oab : ∀ g, va'.ownBlock = some g → vb'.ownBlock ≠ some g) :
    NwG w' s X0 b0 (fun a => ok a ∨ (a = .Tb i ∨ a = .Mb i)) (blT bl i t m) (i + 1) fuel va' vb' (updN pn i p) (updN lo i w.heap.size) (updN hi i w1.heap.size) (updN Pn i P) nm g := by
  have h2 := (h.new hf1).new hf2
  have hK := h2.k.fr h2.a hf (fun k hk => by
    rcases hk with e | e | e
    · exact .inl e
    · exact .inr (.inr (.inl e))
    · exact .inr (.inr (.inr e)))
  have s1 := hf1.size
  have s2 := hf2.size
  have s3 := hf.size
  have hbo : ∀ a, ok a → blT bl i t m a = bl a := fun a hok => blT_old (fun e => hnT.1 (e ▸ hok)) (fun e => hnT.2 (e ▸ hok))
  have hbt : blT bl i t m (.Tb i) = t := if_pos rfl
  have hbm : blT bl i t m (.Mb i) = m := if_pos rfl
  have hDn : ∀ x, w.heap.size ≤ x → ¬ (x = bl .P ∨ va.ownBlock = some x ∨ vb.ownBlock = some x) := by
    rintro x hx (e | e | e)
    · have := h.a.lt _ h.a.pr.1; omega
    · have := (h.a.fa _ e).2.2; omega
    · have := (h.a.fb _ e).2.2; omega
  have hDin : ∀ x, (x = bl .P ∨ va.ownBlock = some x ∨ vb.ownBlock = some x) → s ≤ x ∧ x < w.heap.size := by
    rintro x (e | e | e)
    · subst e; exact h.a.lt _ h.a.pr.1
    · exact (h.a.fa _ e).2.2
    · exact (h.a.fb _ e).2.2
  have hsz := h.a.sz
  have hlast : ∀ g, va'.ownBlock = some g → s ≤ g ∧ g < w'.heap.size := fun g hg => by
    have h1 := (ra.lt g hg).2
    rcases oa g hg with e | e
    · have := (h.a.fa _ e).2.2; omega
    · omega
  have hlbst : ∀ g, vb'.ownBlock = some g → s ≤ g ∧ g < w'.heap.size := fun g hg => by
    have h1 := (rb.lt g hg).2
    rcases ob g hg with e | e
    · have := (h.a.fb _ e).2.2; omega
    · omega
  have hlohi : ∀ j, j < i + 1 → (j < i ∧ updN lo i w.heap.size j = lo j ∧ updN hi i w1.heap.size j = hi j) ∨ (j = i ∧ updN lo i w.heap.size j = w.heap.size ∧ updN hi i w1.heap.size j = w1.heap.size) := fun j hj => by
    by_cases e : j = i
    · subst e; exact .inr ⟨rfl, updN_self _ _ _, updN_self _ _ _⟩
    · exact .inl ⟨by omega, updN_ne _ _ e, updN_ne _ _ e⟩
  refine ⟨⟨by omega, ⟨.inl h.a.pr.1, .inl h.a.pr.2.1, .inl h.a.pr.2.2.1, .inl h.a.pr.2.2.2.1, .inl h.a.pr.2.2.2.2.1, .inl h.a.pr.2.2.2.2.2⟩, fun j hj => ?_, ?_, fun a hok => ?_, fun j hj => ?_, fun j a hj hok => ?_, fun j l hj hl hne => ?_, fun b hb => ?_, fun b hb => ?_, oab⟩, ⟨fun j hj => ?_, fun j hj => ?_, hK.mw, hK.mt, hK.mo, hK.mh, fun j k hok => ?_, hK.x0⟩, ?_, ?_, ?_, ?_, fun x y hx hy => ?_⟩
  · by_cases e : j = i
    · subst e; exact ⟨.inr (.inl rfl), .inr (.inr rfl)⟩
    · have := h.a.okT j (by omega); exact ⟨.inl this.1, .inl this.2⟩
  · refine inj_ext (B := w.heap.size) h.a.inj (fun a hok => ⟨hbo a hok, (h.a.lt a hok).2⟩) (fun a e => ?_) (fun a b e1 e2 e3 => ?_)
    · rcases e with rfl | rfl
      · rw [hbt]; omega
      · rw [hbm]; omega
    · rcases e1 with rfl | rfl <;> rcases e2 with rfl | rfl
      · rfl
      · rw [hbt, hbm] at e3; exact absurd e3 htm.2.2.1
      · rw [hbt, hbm] at e3; exact absurd e3.symm htm.2.2.1
      · rfl
  · rcases hok with hok | rfl | rfl
    · rw [hbo a hok]; have := h.a.lt a hok; omega
    · rw [hbt]; omega
    · rw [hbm]; omega
  · rcases hlohi j hj with ⟨h1, e1, e2⟩ | ⟨h1, e1, e2⟩
    · rw [e1, e2]; have := h.a.iv j h1; omega
    · rw [e1, e2]; omega
  · rcases hlohi j hj with ⟨h1, e1, e2⟩ | ⟨h1, e1, e2⟩
    · rw [e1, e2]
      have hiv := h.a.iv j h1
      rcases hok with hok | rfl | rfl
      · rw [hbo a hok]; exact h.a.off j a h1 hok
      · rw [hbt]; omega
      · rw [hbm]; omega
    · rw [e1, e2]
      rcases hok with hok | rfl | rfl
      · rw [hbo a hok]; have := h.a.lt a hok; omega
      · rw [hbt]; omega
      · rw [hbm]; omega
  · rcases hlohi j hj with ⟨h1, e1, e2⟩ | ⟨h1, e1, e2⟩ <;> rcases hlohi l hl with ⟨h3, e3, e4⟩ | ⟨h3, e3, e4⟩
    · rw [e1, e2, e3, e4]; exact h.a.dis j l h1 h3 hne
    · rw [e1, e2, e3, e4]; have := h.a.iv j h1; omega
    · rw [e1, e2, e3, e4]; have := h.a.iv l h3; omega
    · omega
  · refine ⟨fun a hok => ?_, fun j hj => ?_, hlast b hb⟩
    · rcases oa b hb with e | e
      · have h1 := h.a.fa _ e
        rcases hok with hok | rfl | rfl
        · rw [hbo a hok]; exact h1.1 a hok
        · rw [hbt]; omega
        · rw [hbm]; omega
      · rcases hok with hok | rfl | rfl
        · rw [hbo a hok]; have := h.a.lt a hok; omega
        · rw [hbt]; omega
        · rw [hbm]; omega
    · rcases hlohi j hj with ⟨h1, e1, e2⟩ | ⟨h1, e1, e2⟩
      · rw [e1, e2]
        rcases oa b hb with e | e
        · exact (h.a.fa _ e).2.1 j h1
        · have := h.a.iv j h1; omega
      · rw [e1, e2]
        rcases oa b hb with e | e
        · have := (h.a.fa _ e).2.2; omega
        · omega
  · refine ⟨fun a hok => ?_, fun j hj => ?_, hlbst b hb⟩
    · rcases ob b hb with e | e
      · have h1 := h.a.fb _ e
        rcases hok with hok | rfl | rfl
        · rw [hbo a hok]; exact h1.1 a hok
        · rw [hbt]; omega
        · rw [hbm]; omega
      · rcases hok with hok | rfl | rfl
        · rw [hbo a hok]; have := h.a.lt a hok; omega
        · rw [hbt]; omega
        · rw [hbm]; omega
    · rcases hlohi j hj with ⟨h1, e1, e2⟩ | ⟨h1, e1, e2⟩
      · rw [e1, e2]
        rcases ob b hb with e | e
        · exact (h.a.fb _ e).2.1 j h1
        · have := h.a.iv j h1; omega
      · rw [e1, e2]
        rcases ob b hb with e | e
        · have := (h.a.fb _ e).2.2; omega
        · omega
  · by_cases e : j = i
    · subst e
      rw [updN_self, updN_self, updN_self, updN_self]
      exact ((hN.fr hf2 (X' := fun k => X0 k ∨ s ≤ k ∧ k < w2.heap.size) (fun _ h => h.elim) (fun k hk => by
        rcases hk with hk | hk
        · exact .inl hk
        · exact .inr ⟨hk.1, by omega⟩) (fun k hk => by
        rcases hk with hk | hk
        · exact .inl (.inl hk)
        · by_cases e : k < w1.heap.size
          · exact .inl (.inr ⟨hk.1, e⟩)
          · exact .inr ⟨by omega, hk.2⟩) (fun _ _ h => h))).fr hf (fun k hk => ⟨.inr ⟨(hDin k hk).1, by have := (hDin k hk).2; omega⟩, Nat.le_trans hK.x0.2 (hDin k hk).1⟩) (fun k hk => by
        rcases hk with hk | hk
        · exact .inl hk
        · exact .inr ⟨hk.1, by omega⟩) (fun k hk => by
        rcases hk with hk | hk
        · exact .inl (.inl hk)
        · by_cases e : k < w2.heap.size
          · exact .inl (.inr ⟨hk.1, e⟩)
          · exact .inr ⟨by omega, hk.2⟩) (fun k hk => hDn k hk.1)
    · rw [updN_ne _ _ e, updN_ne _ _ e, updN_ne _ _ e, updN_ne _ _ e]
      exact hK.nd j (by omega)
  · by_cases e : j = i
    · subst e
      rw [hbt, hbm]
      exact hM.fr hf (hDn t (by omega)) (hDn m (by omega))
    · rw [blT_old (fun e2 => e (by injection e2)) (fun e2 => by cases e2), blT_old (fun e2 => by cases e2) (fun e2 => e (by injection e2))]
      exact hK.nms j (by omega)
  · rcases hok with hok | e | e
    · exact hK.ed j k hok
    · cases e
    · cases e
  · exact ⟨hP.c0, hP.c1, hP.c2, hP.c3, hP.c4, hP.c5, hP.c6, hP.c7, hP.c8, hP.fz⟩
  · rw [ptrs_succ, updN_self, ptrs_congr (g := pn) (fun k hk => updN_ne _ _ (by omega))]
    exact ra
  · rw [ptrs_succ, hbt, ptrs_congr (g := fun j => bl (.Tb j)) (fun k hk => blT_old (fun e => by injection e with e; omega) (fun e => by cases e))]
    exact rb
  · exact h2.me.fr hf (by
      rintro (e | e | e)
      · cases h.a.inj _ _ h.a.pr.2.1 h.a.pr.1 e
      · exact (h.a.fa _ e).1 _ h.a.pr.2.1 rfl
      · exact (h.a.fb _ e).1 _ h.a.pr.2.1 rfl)
  · have hxy := h.gv x y hx hy
    refine ⟨fun hok => ?_, fun hnk => hxy.2.1 (fun hok => hnk (.inl hok)), hxy.2.2⟩
    rcases hok with hok | e | e
    · exact hxy.1 hok
    · cases e
    · cases e
end
end Go.Proofs.YthgbcgphkddmgaaGreat.Cx
namespace Go.Proofs.YthgbcgphkddmgaaGreat.Cx
open Go.RowKit Go.Maps
set_option linter.unusedVariables false
set_option linter.unusedSimpArgs false
set_option maxRecDepth 100000 in
set_option maxHeartbeats 4000000 in
theorem nnew_any (n : Int) (w : World) (h1 : 1 ≤ n) (h2 : n ≤ 8) : Calls Tryz.prog 35 #[.int .i64 n] w fun e w' => ∃ t m, e = .returned (.tuple #[.pointer (some ⟨t, 0, none⟩), .int .i64 0]) ∧ w.heap.size ≤ t ∧ w.heap.size ≤ m ∧ Nm.NmAt w' t n 0 m (fun _ => none) ∧ Fr (fun _ => False) w w' := by
  have d1 : decide (n < 1) = false := decide_eq_false (by omega)
  have d2 : decide (8 < n) = false := decide_eq_false (by omega)
  have hmk : ∀ w, (Instr.makeMap 133 none).run Tryz.prog w = .ok (.map (some w.heap.size)) (w.alloc (.map #[] 0)) := fun w => by kernel_rfl
  go_enter Tryz.func35, Tryz.ntmps35
  go_wp2_with fail
  have hz : (w.alloc (.map #[] 0)).heap.size = w.heap.size + 1 := by simp
  refine bodyPost_ret (v := .tuple #[.pointer (some ⟨w.heap.size + 1, 0, none⟩), .int .i64 0]) (by simp [results, Tryz.results35, go_sem]) rfl ⟨_, w.heap.size, rfl, by omega, by omega, ⟨by simp [go_sem], by simp [go_sem], by simp [go_sem], fun o => by simp [go_sem], by omega, ?_⟩, ((Fr.refl _ _).alloc _).alloc _⟩
  exact (Nm.OwnT.made w).fr (S := fun _ => False) (Fr.of_below ((Below.refl _ _).alloc (Nat.le_refl _) _)) (fun h => h)
set_option maxRecDepth 100000 in
set_option maxHeartbeats 4000000 in
theorem lnew_any (w : World) : Calls Tryz.prog 36 #[.int .i64 8] w fun e w' => ∃ t, e = .returned (.tuple #[.pointer (some ⟨t, 0, none⟩), .int .i64 0]) ∧ w.heap.size ≤ t ∧ EndQ w' t ∧ Fr (fun _ => False) w w' := by
  go_enter Tryz.func36, Tryz.ntmps36
  go_wp2_with fail
  refine bodyPost_ret (v := .tuple #[.pointer (some ⟨w.heap.size, 0, none⟩), .int .i64 0]) (by simp [results, Tryz.results36, go_sem]) rfl ⟨_, rfl, Nat.le_refl _, ⟨by simp [go_sem], by simp [go_sem], by simp [go_sem], by simp [go_sem], by simp [go_sem], by simp [go_sem], by simp [go_sem], fun o => by simp [go_sem]⟩, (Fr.refl _ _).alloc _⟩
/-- which blocks there are: i nodes and their lines; and, of the node in work, the lines below k -/
def okI (N i k : Nat) : CBk → Prop
  | .P | .Me | .Mw | .Mt | .Mo | .Mh => True
  | .Va | .Vb => False
  | .Tb j | .Mb j => j < i
  | .Ed j l => (j + 1 < i ∧ l < N ∧ j ≠ l) ∨ (j + 1 = i ∧ l < k ∧ j ≠ l)
theorem okI_more (N i : Nat) (a : CBk) : okI N (i + 1) 0 a ↔ okI N i N a ∨ (a = .Tb i ∨ a = .Mb i) := by
  cases a <;> simp [okI] <;> omega
theorem okI_line (N i k : Nat) (h : k ≠ i) (a : CBk) : okI N (i + 1) (k + 1) a ↔ okI N (i + 1) k a ∨ a = .Ed i k := by
  cases a <;> simp [okI] <;> omega
theorem okI_skip (N i : Nat) (a : CBk) : okI N (i + 1) (i + 1) a ↔ okI N (i + 1) i a := by
  cases a <;> simp [okI] <;> omega
theorem okI_all (N : Nat) (a : CBk) (h : a.ok N) (h1 : a ≠ .Va) (h2 : a ≠ .Vb) : okI N N N a := by
  cases a <;> simp_all [okI, CBk.ok] <;> omega
theorem okI_ok (N : Nat) (a : CBk) (h : okI N N N a) : a.ok N := by
  cases a <;> simp_all [okI, CBk.ok] <;> omega
def blV (bl : CBk → Nat) (ga gb : Nat) : CBk → Nat
  | .Va => ga
  | .Vb => gb
  | a => bl a
def newC (n fuel : Nat) : CqS := ⟨n, fun i => newN ((i : Int) + 1) fuel, fun _ => 0, fun _ _ => none, fun _ => false, 0⟩
theorem NwG.done {w : World} {s b0 : Nat} {X0 : Nat → Prop} {bl : CBk → Nat} {N fuel : Nat} {va vb : Value} {pn lo hi : Nat → Nat} {Pn : Nat → Int → Nat} {nm : Nat} {g : Nat → Nat → Option Value} (h1 : 1 ≤ N) (h8 : N ≤ 8) (hnm : nm ≤ 100) (h : NwG w s X0 b0 (okI N N N) bl N fuel va vb pn lo hi Pn nm g) :
    ∃ bl', bl' .P = bl .P ∧ CqAt w (fun k => X0 k ∨ s ≤ k ∧ k < w.heap.size) (fun k => s ≤ k ∧ k < w.heap.size) b0 0 bl' pn 0 (newC N fuel) := by
  obtain ⟨ga, ca, rfl, hga, hgl, -⟩ := own_form h.ra (by omega)
  obtain ⟨gb, cb, rfl, hgb, hgl2, -⟩ := own_form h.rb (by omega)
  have fa := h.a.fa ga rfl
  have fb := h.a.fb gb rfl
  have hab : ga ≠ gb := fun e => h.a.fab ga rfl (by rw [e]; rfl)
  have hok : ∀ a, okI N N N a → a ≠ .Va ∧ a ≠ .Vb := fun a ha => ⟨fun e => (by subst e; exact ha), fun e => (by subst e; exact ha)⟩
  have hbo : ∀ a, okI N N N a → blV bl ga gb a = bl a := fun a ha => by
    cases a <;> first | rfl | exact absurd ha (fun h => h)
  have hcase : ∀ a : CBk, a.ok N → (okI N N N a ∧ blV bl ga gb a = bl a) ∨ (a = .Va ∧ blV bl ga gb a = ga) ∨ (a = .Vb ∧ blV bl ga gb a = gb) := fun a ha => by
    by_cases e1 : a = .Va
    · subst e1; exact .inr (.inl ⟨rfl, rfl⟩)
    · by_cases e2 : a = .Vb
      · subst e2; exact .inr (.inr ⟨rfl, rfl⟩)
      · have := okI_all N a ha e1 e2
        exact .inl ⟨this, hbo a this⟩
  refine ⟨blV bl ga gb, rfl, .slice none 0 0, fun j k => lo j ≤ k ∧ k < hi j, Pn, ⟨h1, h8⟩, fun a b ha hb e => ?_, fun a ha => ?_, fun k hk => (by cases hk), fun i hI k hk => ?_, fun k hk => ⟨.inr hk, Nat.le_trans h.k.x0.2 hk.1⟩, fun i j hI hj hne k hk hk2 => ?_, fun i hI => h.k.nd i hI, fun i hI => rfl, ?_, ?_⟩
  · rcases hcase a ha with ⟨h3, e3⟩ | ⟨h3, e3⟩ | ⟨h3, e3⟩ <;> rcases hcase b hb with ⟨h4, e4⟩ | ⟨h4, e4⟩ | ⟨h4, e4⟩ <;> rw [e3, e4] at e
    · exact h.a.inj a b h3 h4 e
    · exact absurd e (fa.1 a h3)
    · exact absurd e (fb.1 a h3)
    · exact absurd e.symm (fa.1 b h4)
    · exact h3.trans h4.symm
    · exact absurd e hab
    · exact absurd e.symm (fb.1 b h4)
    · exact absurd e.symm hab
    · exact h3.trans h4.symm
  · rcases hcase a ha with ⟨h3, e3⟩ | ⟨h3, e3⟩ | ⟨h3, e3⟩ <;> rw [e3]
    · exact ⟨h.a.lt a h3, fun i hi => h.a.off i a hi h3⟩
    · exact ⟨fa.2.2, fa.2.1⟩
    · exact ⟨fb.2.2, fb.2.1⟩
  · have h3 := h.a.iv i hI
    have hk : lo i ≤ k ∧ k < hi i := hk
    omega
  · have h3 := h.a.dis i j hI hj hne
    have hk : lo i ≤ k ∧ k < hi i := hk
    have hk2 : lo j ≤ k ∧ k < hi j := hk2
    omega
  · exact ⟨⟨ca, h.p.c0⟩, ⟨cb, h.p.c1⟩, h.p.c2, h.p.c3, h.p.c4, h.p.c5, h.p.c6, h.p.c7, h.p.c8, h.p.fz⟩
  · refine ⟨fun i hI => ?_, fun i hI => ?_, fun i hI => h.k.nms i hI, ⟨nm, hnm, h.me.congr (fun x y hx hy => ?_)⟩, fun i k hI hk e => h.k.ed i k (okI_all N _ ⟨hI, hk, e⟩ (by intro e; cases e) (by intro e; cases e)), h.k.mw, h.k.mt, h.k.mo, ⟨0, Nat.le_refl _, h.k.mh.congr (fun x _ => rfl)⟩, ⟨[], World.ownsRow_nil _ _ _ _⟩⟩
    · have := World.ownsRow.cellAt h.ra i (by show i < N * 1; have : i < N := hI; omega)
      rw [ptrs_at pn (show i < N from hI)] at this
      exact this
    · have := World.ownsRow.cellAt h.rb i (by show i < N * 1; have : i < N := hI; omega)
      rw [ptrs_at _ (show i < N from hI)] at this
      exact this
    · show endsG (blV bl ga gb) N x y = g x y
      unfold endsG
      by_cases hc : 1 ≤ x ∧ x ≤ N ∧ 1 ≤ y ∧ y ≤ N ∧ x ≠ y
      · rw [if_pos hc]
        have hed : okI N N N (.Ed (x - 1) (y - 1)) := okI_all N _ ⟨by omega, by omega, by omega⟩ (by intro e; cases e) (by intro e; cases e)
        have := (h.gv (x - 1) (y - 1) (by omega) (by omega)).1 hed
        rw [show x - 1 + 1 = x by omega, show y - 1 + 1 = y by omega] at this
        rw [this, hbo _ hed]
      · rw [if_neg hc]
        by_cases hx0 : x = 0
        · subst hx0; exact ((h.gv 0 y (by omega) hy).2.2.2).symm
        · by_cases hy0 : y = 0
          · subst hy0; exact ((h.gv x 0 hx (by omega)).2.2.1).symm
          · have := (h.gv (x - 1) (y - 1) (by omega) (by omega)).2.1 (fun hok => by
              have : (CBk.Ed (x - 1) (y - 1)).ok N := okI_ok N _ hok
              have : x - 1 < N ∧ y - 1 < N ∧ x - 1 ≠ y - 1 := this
              omega)
            rw [show x - 1 + 1 = x by omega, show y - 1 + 1 = y by omega] at this
            exact this.symm
end Go.Proofs.YthgbcgphkddmgaaGreat.Cx
