/- Rows of letters: the first one, the others, one more. A cluster with live lines: others write; what its maps answer. One element more in a queue, at a step of a region that draws its order. A cluster with live lines: one letter passes from those that wait to those under way. -/
import Derived.Test.YthgbcgphkddmgaaGreatZBI
namespace Go.Proofs.YthgbcgphkddmgaaGreat
open Go.RowKit Go.Maps
set_option linter.unusedVariables false
set_option linter.unusedSimpArgs false
theorem flC_len (l : List FL) (Z : Nat → Value) : ∀ j, (flC l Z j).length = 9 := fun _ => rfl
theorem flC_cons (x : FL) (l : List FL) (Z : Nat → Value) (j : Nat) : flC (x :: l) Z (j + 1) = flC l (fun j => Z (j + 1)) j := by
  unfold flC flN
  simp only [List.getD_cons_succ]
theorem flatC_cons (x : FL) (l : List FL) (Z : Nat → Value) (n : Nat) : flatC (flC (x :: l) Z) (n + 1) = flC (x :: l) Z 0 ++ flatC (flC l (fun j => Z (j + 1))) n := by
  induction n with
  | zero => simp [flatC]
  | succ n ih => rw [flatC, ih, flatC, flC_cons, List.append_assoc]
/-- the cells of a letter -/
def letC (x : FL) (z : Value) : List Value := [.int .i64 1, .int .i64 (x.frm : Int), .int .i64 (x.dst : Int), .int .i64 0, .string ⟨#[]⟩, .int .i64 2, .int .i64 (x.num : Int), .string ⟨#[]⟩, z]
theorem FlR.nil (w : World) (base : Nat) : FlR w base (.slice none 0 0) [] := ⟨fun _ => .slice none 0 0, fun _ => ⟨none, 0, rfl⟩, by
  have := QR.of_own (World.ownsRow_nil w base 154 9)
  simpa [flatC] using this⟩
theorem FlR.form {w : World} {base : Nat} {v : Value} {l : List FL} (h : FlR w base v l) : ∃ A c, v = .slice A l.length c := by
  obtain ⟨Z, -, h⟩ := h
  obtain ⟨A, c, e, -, -⟩ := h.form
  exact ⟨A, c, e⟩
theorem FlR.head {w : World} {base : Nat} {v : Value} {x : FL} {l : List FL} (h : FlR w base v (x :: l)) : ∃ b off cap z, v = .slice (some ⟨b, off, none⟩) (l.length + 1) cap ∧ 0 < cap ∧ cap ≤ 9223372036854775807 ∧ l.length + 1 ≤ cap ∧ b < w.heap.size ∧ (∃ A c, z = .slice A 0 c) ∧ (∀ j u, (letC x z)[j]? = some u → w.cell? ⟨b, off + j, none⟩ = some u) ∧
    FlR w base (.slice (if cap = 1 then some ⟨b, off, none⟩ else some ⟨b, off + 9, none⟩) l.length (cap - 1)) l := by
  obtain ⟨Z, hz, h⟩ := h
  obtain ⟨ao, cap, rfl, hn, hc⟩ := h.form
  have hl : (x :: l).length = l.length + 1 := rfl
  rw [hl] at h hn
  obtain ⟨b, off, rfl, hb, hlt, hcell, -, -⟩ := h.blk (by omega)
  refine ⟨b, off, cap, Z 0, rfl, by omega, hc, hn, hlt, hz 0, fun j u hu => hcell j u ?_, fun j => Z (j + 1), fun j => hz (j + 1), ?_⟩
  · rw [flatC_cons]
    have e : flC (x :: l) Z 0 = letC x (Z 0) := rfl
    rw [e]
    have hj : j < (letC x (Z 0)).length := by
      rcases Nat.lt_or_ge j (letC x (Z 0)).length with h | h
      · exact h
      · rw [List.getElem?_eq_none h] at hu; cases hu
    rw [List.getElem?_append_left hj]
    exact hu
  · have ht := h.tail _ rfl
    rw [flatC_cons] at ht
    have e : (flC (x :: l) Z 0 ++ flatC (flC l fun j => Z (j + 1)) l.length).drop 9 = flatC (flC l fun j => Z (j + 1)) l.length := by
      rw [List.drop_append_of_le_length (by rw [flC_len]; exact Nat.le_refl _)]
      have : (flC (x :: l) Z 0).drop 9 = [] := rfl
      rw [this]
      rfl
    rw [e] at ht
    exact ht
theorem flN_old {l : List FL} {y : FL} {j : Nat} (h : j < l.length) : flN (l ++ [y]) j = flN l j := by
  unfold flN
  rw [List.getD_eq_getElem?_getD, List.getElem?_append_left h, ← List.getD_eq_getElem?_getD]
theorem flN_new {l : List FL} {y : FL} : flN (l ++ [y]) l.length = y := by
  unfold flN
  rw [List.getD_eq_getElem?_getD, List.getElem?_append_right (Nat.le_refl _)]
  simp
theorem FlR.snoc {w : World} {base : Nat} {v : Value} {x : FL} {l : List FL} {Z : Nat → Value} {z : Value} (hz : ∀ j, ∃ A c, Z j = .slice A 0 c) (hz' : ∃ A c, z = .slice A 0 c) (h : QR w base 154 9 v (l.length + 1) (flatC (flC l Z) l.length ++ letC x z)) : FlR w base v (l ++ [x]) := by
  refine ⟨fun j => if j = l.length then z else Z j, fun j => ?_, ?_⟩
  · show ∃ A c, (if j = l.length then z else Z j) = .slice A 0 c
    split
    · exact hz'
    · exact hz j
  · have e1 : (l ++ [x]).length = l.length + 1 := by simp
    rw [e1]
    have : flatC (flC (l ++ [x]) fun j => if j = l.length then z else Z j) (l.length + 1) = flatC (flC l Z) l.length ++ letC x z := by
      rw [flatC]
      congr 1
      · refine flatC_ext _ (fun j hj => ?_)
        show letC (flN (l ++ [x]) j) (if j = l.length then z else Z j) = letC (flN l j) (Z j)
        rw [if_neg (by omega), flN_old hj]
      · show letC (flN (l ++ [x]) l.length) (if l.length = l.length then z else Z l.length) = letC x z
        rw [if_pos rfl, flN_new]
    rw [this]
    exact h
theorem airN_old {l : List ((Nat × Nat) × PK)} {y : (Nat × Nat) × PK} {j : Nat} (h : j < l.length) : airN (l ++ [y]) j = airN l j := by
  unfold airN
  rw [List.getD_eq_getElem?_getD, List.getElem?_append_left h, ← List.getD_eq_getElem?_getD]
theorem airN_new {l : List ((Nat × Nat) × PK)} {y : (Nat × Nat) × PK} : airN (l ++ [y]) l.length = y := by
  unfold airN
  rw [List.getD_eq_getElem?_getD, List.getElem?_append_right (Nat.le_refl _)]
  simp
/-- what pours into a line, and what is left -/
def pourL : EnS → List FL → List FL → EnS × List FL × List FL
  | e, [], tr => (e, [], tr)
  | e, x :: l, tr => if e.out.length = 8 then (e, x :: l, tr) else pourL (eoAdd e x) l (tr ++ [x])
/-- what a line adds to the air -/
def airL (i k : Nat) : List ((Nat × Nat) × PK) → List PK → List ((Nat × Nat) × PK)
  | a, [] => a
  | a, p :: l => airL i k (if a.length < 400 then a ++ [((i, k), p)] else a) l
/-- fill, of a way -/
def fillS (i k : Nat) (C : GcS) : GcS :=
  let r := pourL (C.en i k) (C.wt i k) (C.tr i k)
  { C with en := upd2 C.en i k r.1.outE, wt := upd2 C.wt i k r.2.1, tr := upd2 C.tr i k r.2.2, air := airL i k C.air r.1.outs }
end Go.Proofs.YthgbcgphkddmgaaGreat
namespace Go.Proofs.YthgbcgphkddmgaaGreat
open Go.RowKit Go.Maps
set_option linter.unusedVariables false
set_option linter.unusedSimpArgs false
section
variable {w w' : World} {X X' Mc D : Nat → Prop} {base T T' : Nat} {bl : CBk → Nat} {pn : Nat → Nat} {rv rv' : RBk → Value} {Bd Bd' : Nat → Prop} {M : Nat → Nat → Prop} {Pn : Nat → Int → Nat} {C C' : GcS}
theorem GcG.tou (h : GcG w X Mc base T bl pn rv Bd M Pn C) {a : CBk} (ha : a.ok C.n) : ∀ b, TouC bl rv a b → Mc b := fun b hb => by
  cases a with
  | Ed i k =>
    rcases hb with hb | hb | hb
    · rw [hb]; exact (h.own _ ha).1
    · exact (h.row (.Out i k) ha b hb).1
    · exact (h.row (.Inn i k) ha b hb).1
  | Tb i =>
    rcases hb with hb | hb
    · rw [hb]; exact (h.own _ ha).1
    · rw [hb]; exact (h.own (.Mb i) ha).1
  | _ => rw [show b = bl _ from hb]; exact (h.own _ ha).1
/-- others write -/
theorem GcG.fr (h : GcG w X Mc base T bl pn rv Bd M Pn C) (hf : Fr D w w') (hD : ∀ k, D k → X k ∧ base ≤ k ∧ ¬ Mc k) (hx : ∀ k, X k → X' k) (hX : ∀ k, X' k → X k ∨ w.heap.size ≤ k ∧ k < w'.heap.size) : GcG w' X' Mc base T bl pn rv Bd M Pn C :=
  ⟨h.n8, h.inj, h.own, h.row, h.bod, h.sub, fun k hk => ⟨hx k (h.mx k hk).1, (h.mx k hk).2⟩, h.dis, fun i hi => (h.nd i hi).fr hf (fun k hk => ⟨(hD k hk).1, (hD k hk).2.1⟩) hx hX (fun k hk hd => (hD k hd).2.2 (h.sub i hi k hk)), h.ids, fun a ha => (h.cc a ha).fr hf (fun b hb hd => (hD b hd).2.2 (h.tou ha b hb)) (fun b hb hd => (hD b hd).2.2 (h.bod b hb).1), fun r hr => (h.cr r hr).fr hf (fun b hb hd => (hD b hd).2.2 (h.row r hr b hb).1) (fun b hb hd => (hD b hd).2.2 (h.bod b hb).1)⟩
theorem GcG.new (h : GcG w X Mc base T bl pn rv Bd M Pn C) (hf : Fr (fun _ => False) w w') : GcG w' X Mc base T bl pn rv Bd M Pn C := h.fr hf (fun _ h => h.elim) (fun _ h => h) (fun _ h => .inl h)
/-- a node has turned -/
theorem GcG.node (h : GcG w X Mc base T bl pn rv Bd M Pn C) {i : Nat} (hi : i < C.n) {Mi' : Nat → Prop} {P' : Int → Nat} {N' : NdS} (hg : Gr X (M i) w X' Mi' w') (hN : NodeAt w' X' Mi' base T' (pn i) P' N') (hT : T ≤ T') (hid : N'.id = (i : Int) + 1) :
    GcG w' X' (fun k => Mc k ∨ Mi' k) base T' bl pn rv Bd (updN M i Mi') (updN Pn i P') { C with nd := updN C.nd i N' } := by
  have hX : ∀ k, X' k → X k ∨ w.heap.size ≤ k ∧ k < w'.heap.size := fun k hk => by
    rcases hg.xs k hk with e | e
    · exact .inl e
    · exact .inr ⟨e, hN.xlt k hk⟩
  have hms : ∀ k, k < w.heap.size → Mi' k → M i k := fun k hk hm => by
    rcases hg.ms k hm with e | e
    · exact e
    · omega
  have hmc := h.mlt
  have hno : ∀ k, Mc k → (∀ j, j < C.n → ¬ M j k) → ∀ j, j < C.n → ¬ updN M i Mi' j k := fun k hk hm j hj => by
    by_cases e : j = i
    · subst e
      rw [updN_self]
      exact fun h2 => hm j hj (hms _ (hmc _ hk) h2)
    · rw [updN_ne _ _ e]
      exact hm j hj
  refine ⟨h.n8, h.inj, fun a ha => ⟨.inl (h.own a ha).1, hno _ (h.own a ha).1 (h.own a ha).2⟩, fun r hr k hk => ⟨.inl (h.row r hr k hk).1, hno _ (h.row r hr k hk).1 (h.row r hr k hk).2.1, (h.row r hr k hk).2.2⟩, fun k hk => ⟨.inl (h.bod k hk).1, hno _ (h.bod k hk).1 (h.bod k hk).2.1, (h.bod k hk).2.2⟩, fun j hj k hk => ?_, fun k hk => ?_, fun j l hj hl e k hk => ?_, fun j hj => ?_, fun j hj => ?_, fun a ha => ?_, fun r hr => ?_⟩
  · by_cases e : j = i
    · subst e
      rw [updN_self] at hk
      exact .inr hk
    · rw [updN_ne _ _ e] at hk
      exact .inl (h.sub j hj k hk)
  · rcases hk with hk | hk
    · exact ⟨hg.up k (h.mx k hk).1, (h.mx k hk).2⟩
    · exact hN.2.2.1 k hk
  · by_cases e1 : j = i
    · subst e1
      rw [updN_self] at hk
      rw [updN_ne _ _ (fun e2 => e e2.symm)]
      exact fun hm => h.dis j l hj hl e k (hms k (hmc k (h.sub l hl k hm)) hk) hm
    · rw [updN_ne _ _ e1] at hk
      by_cases e2 : l = i
      · subst e2
        rw [updN_self]
        exact fun hm => h.dis j l hj hl e k hk (hms k (hmc k (h.sub j hj k hk)) hm)
      · rw [updN_ne _ _ e2]
        exact h.dis j l hj hl e k hk
  · by_cases e : j = i
    · subst e
      show NodeAt w' X' (updN M j Mi' j) base T' (pn j) (updN Pn j P' j) (updN C.nd j N' j)
      rw [updN_self, updN_self, updN_self]
      exact hN
    · show NodeAt w' X' (updN M i Mi' j) base T' (pn j) (updN Pn i P' j) (updN C.nd i N' j)
      rw [updN_ne _ _ e, updN_ne _ _ e, updN_ne _ _ e]
      exact ((h.nd j hj).fr hg.fr (fun k hk => h.mx k (h.sub i hi k hk)) hg.up hX (fun k hm hd => h.dis j i hj hi e k hm hd)).up hT
  · show (updN C.nd i N' j).id = _
    by_cases e : j = i
    · subst e
      rw [updN_self]
      exact hid
    · rw [updN_ne _ _ e]
      exact h.ids j hj
  · have hc := (h.cc a ha).fr hg.fr (fun b hb hd => ?_) (fun b hb hd => (h.bod b hb).2.1 i hi hd)
    · cases a <;> exact hc
    · cases a with
      | Ed x y =>
        rcases hb with hb | hb | hb
        · rw [hb] at hd; exact (h.own _ ha).2 i hi hd
        · exact (h.row (.Out x y) ha b hb).2.1 i hi hd
        · exact (h.row (.Inn x y) ha b hb).2.1 i hi hd
      | Tb x =>
        rcases hb with hb | hb
        · rw [hb] at hd; exact (h.own _ ha).2 i hi hd
        · rw [hb] at hd; exact (h.own (.Mb x) ha).2 i hi hd
      | _ => rw [show b = bl _ from hb] at hd; exact (h.own _ ha).2 i hi hd
  · have hc := (h.cr r hr).fr hg.fr (fun b hb hd => (h.row r hr b hb).2.1 i hi hd) (fun b hb hd => (h.bod b hb).2.1 i hi hd)
    cases r <;> exact hc
theorem Gr.gc (h : GcG w X Mc base T bl pn rv Bd M Pn C) {i : Nat} (hi : i < C.n) {Mi' : Nat → Prop} (hg : Gr X (M i) w X' Mi' w') : Gr X Mc w X' (fun k => Mc k ∨ Mi' k) w' :=
  ⟨hg.fr.weak (h.sub i hi), hg.up, hg.xs, fun k hk => by
    rcases hk with hk | hk
    · exact .inl hk
    · rcases hg.ms k hk with e | e
      · exact .inl (h.sub i hi k e)
      · exact .inr e⟩
theorem GcG.end_at (h : GcG w X Mc base T bl pn rv Bd M Pn C) {i k : Nat} (hi : i < C.n) (hk : k < C.n) (hne : i ≠ k) : ∀ W, Fr (fun _ => False) w W → (Instr.lookup 81 (.map (some (bl .Me))) (.agg #[.int .i64 ((i : Int) + 1), .int .i64 ((k : Int) + 1)]) false).run Tryz.prog W = .ok (.pointer (some ⟨bl (.Ed i k), 0, none⟩)) W := fun W hf => by
  obtain ⟨m, hm, hme⟩ := h.cc .Me trivial
  have h8 := h.n8
  have := (hme.fr hf (fun h => h)).look und_mwe zero_ep (i := i + 1) (k := k + 1) (by omega) (by omega)
  rw [endsG_at bl hi hk hne, wayV_succ] at this
  exact this
theorem WayMap.look {b n : Nat} {f : Nat → Nat → Value} (h : WayMap w b n f) (hn : n ≤ 8) {i k : Nat} (hi : i < n) (hk : k < n) (hne : i ≠ k) : (Instr.lookup 82 (.map (some b)) (.agg #[.int .i64 ((i : Int) + 1), .int .i64 ((k : Int) + 1)]) false).run Tryz.prog w = .ok (f i k) w := by
  obtain ⟨m, g, hm, ho, hg⟩ := h
  have := ho.look und_mwl zero_ls (i := i + 1) (k := k + 1) (by omega) (by omega)
  rw [hg i k hi hk hne, wayV_succ] at this
  exact this
theorem WayMap.bound {b n : Nat} {f : Nat → Nat → Value} (h : WayMap w b n f) : b < w.heap.size := by
  obtain ⟨m, g, hm, ho, hg⟩ := h
  exact ho.lt
end
end Go.Proofs.YthgbcgphkddmgaaGreat
namespace Go.Proofs.YthgbcgphkddmgaaGreat
open Go.RowKit
set_option linter.unusedVariables false
theorem run_append_q {P : Program} (w : World) (t ty : TypeId) (base : Nat) (e : TypeId) (i : TypeInfo) (z : Value) (sz bytes : Nat) (ht : P.underlying t = some (.slice e)) (hi : P.info? e = some i) (hz : i.zero = some z)
    (hsize : i.size = sz) (hby : i.bytes = bytes) (hzs : z.cells.size = sz) (hsz : 0 < sz) (v : Value) (n : Nat) (xs : List Value) (hq : QR w base e sz v n xs) (b : Nat) (news : List Value)
    (hl : news.length = sz) (hnews : ∀ j u, news[j]? = some u → w.cell? ((⟨b, 0, none⟩ : Addr).add j) = some u) (h1 : ∀ u ∈ news, u.oneCell' = true) (h63 : n + 1 ≤ maxLen) (hbytes : (n + 1) * bytes ≤ 140737488355328) (hbase : base ≤ w.heap.size) :
    ∃ v' w', (Builtin.append_ #[t, t] ty #[v, .slice (some ⟨b, 0, none⟩) 1 1]).run P w = .ok v' w' ∧ QR w' base e sz v' (n + 1) (xs ++ news) ∧ w.grownBy w' v.ownBlock ∧ (v'.ownBlock = v.ownBlock ∨ ∃ g, v'.ownBlock = some g ∧ w.heap.size ≤ g) := by
  have hq0 := hq
  obtain ⟨hxl, ao, cap, rfl, h3, h4, h5, h6⟩ := hq
  have hfin : ∀ v' w', w'.ownsRow w.heap.size e sz v' (n + 1) (xs ++ news) → w.grownBy w' none → QR w' base e sz v' (n + 1) (xs ++ news) ∧ w.grownBy w' (Value.slice ao n cap).ownBlock ∧ (v'.ownBlock = (Value.slice ao n cap).ownBlock ∨ ∃ g, v'.ownBlock = some g ∧ w.heap.size ≤ g) := fun v' w' hown hg => by
    refine ⟨QR.of_own (World.ownsRow.mono hown hbase), ⟨hg.os, hg.tape, hg.output, hg.size, fun k hk hne => hg.block k hk (by simp)⟩, ?_⟩
    obtain ⟨g, cp, hv, hgb, -⟩ := World.ownsRow.form hown (by omega)
    subst hv
    exact .inr ⟨g, rfl, hgb⟩
  by_cases hroom : n + 1 ≤ cap
  · obtain ⟨g, off, rfl, hgb, hlt, hcell, hfr, hsp⟩ := hq0.blk (by omega)
    have hm : (n + 1) * sz ≤ cap * sz := Nat.mul_le_mul_right _ hroom
    rw [Nat.succ_mul] at hm
    subst hsize
    refine ⟨_, _, run_append_room_cells (P := P) w t ty e i ht hi g off n cap ⟨b, 0, none⟩ 1 1 news (by rw [hl, Nat.one_mul]) hnews h1 hroom (fun j hj => by rw [Nat.add_assoc]; exact hsp _ (by omega)) (fun j hj => hfr _), ?_, grown_setCellsQ w g news _, .inl rfl⟩
    obtain ⟨b', off', cur, hab, hb, hh, hss, hxx⟩ := h6 (by omega)
    injection hab with hab
    injection hab with e1 e2
    subst e1 e2
    have hblk : (w.setCells g (off + n * i.size) news).heap[g]? = some (.cells (setRun cur (off + n * i.size) news) e (0, 0)) := heap_setCells_run w g e news (off + n * i.size) cur hh
    refine ⟨by rw [List.length_append, hxl, hl, Nat.succ_mul], some ⟨g, off, none⟩, cap, rfl, hroom, h4, (fun hn => by cases hn), fun _ => ⟨g, off, _, rfl, hb, hblk, by rw [setRun_size]; exact hss, fun j hj => ?_⟩⟩
    rw [setRun_get _ _ _ (by omega)]
    by_cases hjn : j < n * i.size
    · rw [if_neg (by omega), List.getElem?_append_left (by omega), hxx j hjn]
    · rw [Nat.succ_mul] at hj
      rw [if_pos (by omega), List.getElem?_append_right (by omega), hxl]
      congr 1
      omega
  · cases ao with
    | none =>
      have hc0 := h5 rfl
      subst hc0
      have hn0 : n = 0 := by omega
      subst hn0
      obtain rfl : xs = [] := List.eq_nil_of_length_eq_zero (by simpa using hxl)
      obtain ⟨v', w', hrun, r1, r2, _⟩ := run_append_own (P := P) w w.heap.size t ty e i z sz bytes ht hi hz hsize hby hzs hsz (.slice none 0 0) 0 [] (World.ownsRow_nil w _ e sz) ⟨b, 0, none⟩ 1 1 news (by rw [hl, Nat.one_mul]) hnews h1 h63 hbytes (Nat.le_refl _)
      exact ⟨v', w', hrun, hfin v' w' r1 r2⟩
    | some A =>
      obtain ⟨v', w', hrun, r1, r2⟩ := run_append_arg_grows (P := P) w t ty e i z sz bytes ht hi hz hsize hby hzs hsz A n cap xs hxl (fun j u hj => by
        have h0 : 0 < cap := by
          rcases Nat.eq_zero_or_pos n with hn0 | hn0
          · subst hn0
            rw [List.getElem?_eq_none (by omega)] at hj; cases hj
          · omega
        obtain ⟨g, off, hab, _, _, hcell, _, _⟩ := hq0.blk h0
        injection hab with hab
        subst hab
        rw [Addr.add_lit]
        exact hcell j u hj) ⟨b, 0, none⟩ 1 1 news (by rw [hl, Nat.one_mul]) hnews (by omega) h63 hbytes
      exact ⟨v', w', hrun, hfin v' w' r1 r2⟩
theorem step_append_q {P : Program} {w : World} {ops : Array Oper} {o : Oper} {a : Act} {K : Act → World → Prop} {Q : Exit → Act → World → Prop} {E : Prop} (hgd : o.guard = none) (s x : Operand) (t : TypeId)
    (ho : o.op = .call { callee := .builtin .append, args := #[s, x], argTypes := #[t, t] }) (base : Nat) (e : TypeId) (i : TypeInfo) (z : Value) (sz bytes : Nat) (ht : P.underlying t = some (.slice e)) (hi : P.info? e = some i) (hz : i.zero = some z)
    (hsize : i.size = sz) (hby : i.bytes = bytes) (hzs : z.cells.size = sz) (hsz : 0 < sz) (v : Value) (n : Nat) (xs : List Value) (hs : a.eval s = v) (hq : QR w base e sz v n xs) (b : Nat) (news : List Value) (hx : a.eval x = .slice (some ⟨b, 0, none⟩) 1 1)
    (hl : news.length = sz) (hnews : ∀ j u, news[j]? = some u → w.cell? ((⟨b, 0, none⟩ : Addr).add j) = some u) (h1 : ∀ u ∈ news, u.oneCell' = true) (h63 : n + 1 ≤ maxLen) (hbytes : (n + 1) * bytes ≤ 140737488355328) (hbase : base ≤ w.heap.size)
    (h : ∀ v' w', QR w' base e sz v' (n + 1) (xs ++ news) → w.grownBy w' v.ownBlock → (v'.ownBlock = v.ownBlock ∨ ∃ g, v'.ownBlock = some g ∧ w.heap.size ≤ g) → K (a.put o.dst v') w') :
    if Region.wanted o (yielded ops a.tmps) = true then Oper.wp P o a w K Q else E := by
  have hw : Region.wanted o (yielded ops a.tmps) = true := by simp [Region.wanted, hgd]
  rw [if_pos hw]
  obtain ⟨v', w', hr, h2, h3, h4⟩ := run_append_q (P := P) w t o.type base e i z sz bytes ht hi hz hsize hby hzs hsz v n xs hq b news hl hnews h1 h63 hbytes hbase
  unfold Oper.wp execOp
  simp only [ho, resolve, invoke, builtin, Sem.run_bind, Sem.run_pure, Result.andThen_ok, List.map_toArray, List.map_cons, List.map_nil, hs, hx, hr]
  exact h v' w' h2 h3 h4
end Go.Proofs.YthgbcgphkddmgaaGreat
namespace Go.Proofs.YthgbcgphkddmgaaGreat
open Go.RowKit Go.Maps
set_option linter.unusedVariables false
set_option linter.unusedSimpArgs false
theorem sizeFl (w : World) : (sizeOf (Tryz.prog.elem 115)).run Tryz.prog w = .ok 9 w := by kernel_rfl
theorem elemFl : Tryz.prog.underlying 115 = some (.slice (Tryz.prog.elem 115)) := by kernel_rfl
/-- the others of a row of letters -/
theorem FlR.cut {w : World} {base : Nat} {v : Value} {x : FL} {l : List FL} (h : FlR w base v (x :: l)) : ∃ A c v0, v = v0 ∧ (∀ W, (Instr.sliceAt 115 v0 (some (.int .i64 1)) none none).run Tryz.prog W = .ok (.slice A l.length c) W) ∧ FlR w base (.slice A l.length c) l ∧ (Value.slice A l.length c).ownBlock = v.ownBlock ∧ ∀ b, (Value.slice A l.length c).ownBlock = some b → b < w.heap.size := by
  obtain ⟨b, off, cap, z, hv, hc0, hc63, hlc, hblt, hz, hcell, htl⟩ := h.head
  subst hv
  refine ⟨if cap = 1 then some ⟨b, off, none⟩ else some ⟨b, off + 9, none⟩, cap - 1, _, rfl, fun W => ?_, htl, ?_, fun b' hb' => ?_⟩
  · have := run_slice_l (P := Tryz.prog) (w := W) 115 (some ⟨b, off, none⟩) (l.length + 1) cap elemFl .i64 1 (by omega) (by omega)
    rw [run_sliceAt_slice _ _ _ _ _ _ elemFl, this, sizeFl]
    simp only [Result.andThen, sliced, Int.toNat_one, Nat.one_mul, Option.map, Go.WideShapes.add_plain]
    split <;> rfl
  · split <;> rfl
  · have e : b = b' := by
      split at hb' <;> exact Option.some.inj hb'
    omega
section
variable {w w' : World} {X X' Mc D : Nat → Prop} {base T T' : Nat} {bl : CBk → Nat} {pn : Nat → Nat} {rv rv' : RBk → Value} {Bd Bd' : Nat → Prop} {M : Nat → Nat → Prop} {Pn : Nat → Int → Nat} {C C' : GcS}
/-- one letter more under way -/
theorem GcG.more_tr (h : GcG w X Mc base T bl pn rv Bd M Pn C) {i k : Nat} (hi : i < C.n) (hk : k < C.n) (hne : i ≠ k) {WB w5 w6 w7 : World} {x : FL} {z v6 : Value} {Z : Nat → Value}
    (hB : Fr (fun _ => False) w WB) (h5 : Fr (fun b => b = bl .Mt) WB w5) (h6 : w5.grownBy w6 (rv (.Tr i k)).ownBlock) (h7 : Fr (fun b => b = bl .Mt) w6 w7)
    (hm : WayMap w7 (bl .Mt) C.n (fun x y => if x = i ∧ y = k then v6 else rv (.Tr x y))) (hZ : ∀ j, ∃ A c, Z j = .slice A 0 c) (hz : ∃ A c, z = .slice A 0 c)
    (hq : QR w6 base 154 9 v6 ((C.tr i k).length + 1) (flatC (flC (C.tr i k) Z) (C.tr i k).length ++ letC x z)) (hat : v6.ownBlock = (rv (.Tr i k)).ownBlock ∨ ∃ g, v6.ownBlock = some g ∧ w5.heap.size ≤ g) :
    ∃ X' Mc', Gr X Mc w X' Mc' w7 ∧ GcG w7 X' Mc' base T bl pn (updR rv (.Tr i k) v6) Bd M Pn { C with tr := upd2 C.tr i k (C.tr i k ++ [x]) } := by
  have hrok : (RBk.Tr i k).ok C.n := ⟨hi, hk, hne⟩
  have hMt : bl .Mt < w.heap.size := h.mlt _ (h.own .Mt trivial).1
  have hz5 : w.heap.size ≤ w5.heap.size := Nat.le_trans hB.size h5.size
  have hlt6 : ∀ b, v6.ownBlock = some b → b < w6.heap.size := hq.lt (fun A m e => by
    obtain ⟨ao, cap, e1, e2, -⟩ := hq.form
    rw [e1] at e
    injection e with _ _ e3
    omega)
  have hvo : v6.ownBlock = (rv (.Tr i k)).ownBlock ∨ ∃ g, v6.ownBlock = some g ∧ w.heap.size ≤ g := by
    rcases hat with e | ⟨g, e, hg⟩
    · exact .inl e
    · exact .inr ⟨g, e, by omega⟩
  have hnM : ∀ b, v6.ownBlock = some b → b ≠ bl .Mt := fun b hb e => by
    rcases hvo with e1 | ⟨g, e1, hg⟩
    · rw [e1] at hb
      exact (h.row _ hrok b hb).2.2.1 .Mt trivial e.symm
    · rw [e1] at hb
      injection hb with hb
      omega
  refine h.passed hi hk hne (w' := w7) (v' := v6) ?_ hm ?_ (fun b hb => Nat.lt_of_lt_of_le (hlt6 b hb) h7.size) hvo
  · refine Fr.trans' (S := fun b => b = bl .Mt ∨ (rv (.Tr i k)).ownBlock = some b) (Fr.trans' (S := fun b => b = bl .Mt ∨ (rv (.Tr i k)).ownBlock = some b) (hB.weak (fun _ h => h.elim)) (h5.weak (fun b hb => .inl hb))) (Fr.trans' (S := fun b => b = bl .Mt ∨ (rv (.Tr i k)).ownBlock = some b) (Fr.of_grown h6 (fun b hb => .inl (.inr hb))) (h7.weak (fun b hb => .inl hb)))
  · exact FlR.snoc hZ hz (hq.fr h7 (fun b hb hd => hnM b hb hd))
set_option maxRecDepth 100000 in
/-- what waits is one letter less -/
theorem GcG.less_wt (h : GcG w X Mc base T bl pn rv Bd M Pn C) {i k : Nat} (hi : i < C.n) (hk : k < C.n) (hne : i ≠ k) {x : FL} {l : List FL} (hw : C.wt i k = x :: l) :
    ∃ A c, (∀ W, (Instr.sliceAt 115 (rv (.Wt i k)) (some (.int .i64 1)) none none).run Tryz.prog W = .ok (.slice A l.length c) W) ∧
      ∀ W, Fr (fun _ => False) w W → ∃ w7, (Instr.mapUpdate 82 (.map (some (bl .Mw))) (.agg #[.int .i64 ((i : Int) + 1), .int .i64 ((k : Int) + 1)]) (.slice A l.length c)).run Tryz.prog W = .ok () w7 ∧
        ∃ X' Mc', Gr X Mc w X' Mc' w7 ∧ GcG w7 X' Mc' base T bl pn (updR rv (.Wt i k) (.slice A l.length c)) Bd M Pn { C with wt := upd2 C.wt i k l } := by
  have h8 := h.n8
  have hrok : (RBk.Wt i k).ok C.n := ⟨hi, hk, hne⟩
  have hfl : FlR w base (rv (.Wt i k)) (x :: l) := hw ▸ (show FlR w base (rv (.Wt i k)) (C.wt i k) from h.cr (.Wt i k) hrok)
  obtain ⟨A, c, v0, hv0, hrun, hfl2, hob, hlt⟩ := hfl.cut
  subst hv0
  refine ⟨A, c, hrun, fun W hW => ?_⟩
  obtain ⟨m, g, hm, ho, hg⟩ : WayMap w (bl .Mw) C.n _ := h.cc .Mw trivial
  obtain ⟨w7, r1, r2, r3⟩ := (ho.fr hW (fun h => h)).store und_mwl (by have := cntW_le g; unfold maxLen; omega) (i + 1) (k + 1) (.slice A l.length c) (by omega) (by omega)
  rw [wayV_succ] at r1
  have hf7 : Fr (fun b => b = bl .Mw) W w7 := Fr.of_grown r3 (fun b hb => .inl (by injection hb with hb; exact hb.symm))
  refine ⟨w7, r1, h.waited hi hk hne (Fr.trans' (S := fun b => b = bl .Mw ∨ (rv (.Wt i k)).ownBlock = some b) (hW.weak (fun _ h => h.elim)) (hf7.weak (fun b hb => .inl hb))) (WayMap.put (by omega) (by omega) hm r2 hg) ?_ (fun b hb => Nat.lt_of_lt_of_le (hlt b hb) (Nat.le_trans hW.size hf7.size)) (.inl hob)⟩
  obtain ⟨Z, q1, q2⟩ := hfl2
  refine ⟨Z, q1, (q2.fr hW (fun _ _ h => h)).fr hf7 (fun b hb hd => ?_)⟩
  rw [hob] at hb
  exact (h.row _ hrok b hb).2.2.1 .Mw trivial hd.symm
end
end Go.Proofs.YthgbcgphkddmgaaGreat
