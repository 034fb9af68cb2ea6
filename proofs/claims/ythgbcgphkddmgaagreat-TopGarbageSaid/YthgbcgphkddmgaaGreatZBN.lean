/- What the law's own functions answer. Lemmas for the walk of the law TopGarbage. -/
import Derived.Test.YthgbcgphkddmgaaGreatZBL
import Derived.Test.YthgbcgphkddmgaaGreatZBM
import Derived.Test.YthgbcgphkddmgaaGreatZAI
import Derived.Laws.OwnMore
namespace Go.Proofs.YthgbcgphkddmgaaGreat
open Go.RowKit
set_option linter.unusedVariables false
set_option linter.unusedSimpArgs false
set_option maxRecDepth 100000 in
set_option maxHeartbeats 4000000 in
theorem rvref_any (x : Int) (w : World) : Calls Tryz.prog 10 #[.int .i64 x] w fun e w' => e = .returned (.agg #[.int .i64 6, .int .i64 x, .string ⟨#[]⟩, .slice none 0 0]) ∧ Fr (fun _ => False) w w' := by
  go_enter Tryz.func10, Tryz.ntmps10
  go_wp2_with fail
  refine bodyPost_ret (v := .agg #[.int .i64 6, .int .i64 x, .string ⟨#[]⟩, .slice none 0 0]) (by simp [results, Tryz.results10, go_sem]) rfl ⟨rfl, ?_⟩
  exact (Fr.refl _ _).alloc _
theorem wrap64_small {n : Int} (h0 : 0 ≤ n) (h1 : n < 9223372036854775808) : wrap64 n = n := by unfold wrap64; omega
set_option maxRecDepth 100000 in
set_option maxHeartbeats 4000000 in
theorem refc_any (n i nb : Nat) (w : World) (hn : okN3 n) (hi : i < 20) (hc : w.cell? ⟨nb, 0, none⟩ = some (.int .i64 (n : Int))) : Calls Tryz.prog 9 #[.int .i64 (i : Int), .pointer (some ⟨nb, 0, none⟩)] w fun e w' => e = .returned (.int .i64 (refG n i)) ∧ Fr (fun _ => False) w w' := by
  have hnb : nb < w.heap.size := World.block_lt_of_cell? w _ hc
  have hn1 : ¬ n = 0 := by rcases hn with rfl | rfl | rfl <;> omega
  have e1 : (i : Int) % (n : Int) = ((i % n : Nat) : Int) := by rw [Int.natCast_emod]
  have e2 : (i : Int) / (n : Int) = ((i / n : Nat) : Int) := by rw [Int.natCast_ediv]
  have b1 : i % n < 3 := by have := Nat.mod_lt i (show 0 < n by omega); rcases hn with rfl | rfl | rfl <;> omega
  have b2 : i / n < 20 := Nat.lt_of_le_of_lt (Nat.div_le_self _ _) hi
  have he : wrap64 (wrap64 (wrap64 (wrap64 (1 + (i : Int) % (n : Int)) * 1000) + wrap64 ((i : Int) / (n : Int))) + 1) = refG n i := by
    unfold refG
    rw [e1, e2]
    generalize i % n = x at b1
    generalize i / n = y at b2
    rw [wrap64_small (n := 1 + (x : Int)) (by omega) (by omega), wrap64_small (n := (1 + (x : Int)) * 1000) (by omega) (by omega), wrap64_small (n := (y : Int)) (by omega) (by omega), wrap64_small (n := (1 + (x : Int)) * 1000 + y) (by omega) (by omega), wrap64_small (by omega) (by omega)]
    omega
  have HE := Lib.hid he
  clear he e1 e2 b1 b2
  go_enter Tryz.func9, Tryz.ntmps9
  go_wp2_with fail
  go_region
  all_goals
    go_wp2_with fail
    go_ret
    refine ⟨ret_int ?_, (Fr.refl _ _).drew⟩
    exact HE.out
/-- a row of truth values that the law itself writes -/
structure BoolAt (w : World) (b m : Nat) (F : Nat → Bool) : Prop where
  c : ∀ j, j < m → w.cell? ⟨b, j, none⟩ = some (.bool (F j))
  fz : ∀ o, w.frozen? ⟨b, o, none⟩ = false
  lt : b < w.heap.size
theorem BoolAt.fr {D : Nat → Prop} {w w' : World} {b m : Nat} {F : Nat → Bool} (h : BoolAt w b m F) (hf : Fr D w w') (hn : ¬ D b) : BoolAt w' b m F :=
  ⟨fun j hj => hf.cell (h.c j hj) hn, fun o => (hf.frozen h.lt hn).trans (h.fz o), Nat.lt_of_lt_of_le h.lt hf.size⟩
theorem BoolAt.congr {w : World} {b m : Nat} {F G : Nat → Bool} (h : BoolAt w b m F) (e : ∀ j, j < m → G j = F j) : BoolAt w b m G :=
  ⟨fun j hj => by rw [e j hj]; exact h.c j hj, h.fz, h.lt⟩
theorem BoolAt.set {w : World} {b m : Nat} {F : Nat → Bool} (h : BoolAt w b m F) {i : Nat} (hi : i < m) (x : Bool) : BoolAt (w.setCell ⟨b, i, none⟩ (.bool x)) b m (fun j => if j = i then x else F j) := by
  refine ⟨fun j hj => ?_, fun o => set_fz h.fz o, by simpa using h.lt⟩
  by_cases e : j = i
  · subst e
    rw [if_pos rfl]
    exact set_this (h.c j hj)
  · rw [if_neg e]
    exact set_other (h.c j hj) e
theorem infoB : (Tryz.prog.info? 4).map (fun i => (i.zero, i.size, i.bytes)) = some (some (.bool false), 1, 1) := by kernel_rfl
set_option maxRecDepth 100000 in
theorem make_bools (w : World) (q : Nat) (hq : q ≤ 1000) : ∃ w', (Instr.makeSlice 23 (.int .i64 (q : Int)) (.int .i64 (q : Int))).run Tryz.prog w = .ok (.slice (some ⟨w.heap.size, 0, none⟩) q q) w' ∧ BoolAt w' w.heap.size q (fun _ => false) ∧ Fr (fun _ => False) w w' ∧ w'.heap.size = w.heap.size + 1 := by
  obtain ⟨i0, hi0, z0, z1, z2⟩ := info_parts infoB
  have h1 := run_make w 23 4 i0 (.bool false) Tryz.underlying23 hi0 z0 .i64 .i64 (q : Int) (q : Int) (by omega) (Int.le_refl _) (by rw [z2]; omega) (by omega)
  have h2 : ((q : Int)).toNat = q := by omega
  rw [h2, z1, Nat.mul_one] at h1
  refine ⟨_, h1, ⟨fun j hj => ?_, fun o => by simp [go_sem], by simp⟩, (Fr.refl _ _).alloc _, by simp⟩
  have e : madeCells (Value.bool false).cells q = (List.replicate q (Value.bool false)).toArray := by
    have := toList_madeCells_one (.bool false) q
    rw [← this]
    rfl
  rw [e]
  have := cell_newL w (List.replicate q (Value.bool false)) 4 w.heap.size rfl j (.bool false) (by simp [hj])
  rw [Addr.add_lit, Nat.zero_add] at this
  exact this
section
variable {w w' : World} {X X' Mc D : Nat → Prop} {s base T T' : Nat} {bl : CBk → Nat} {pn : Nat → Nat} {vl : Value} {ll : Nat} {M : Nat → Nat → Prop} {Pn : Nat → Int → Nat} {C : CqS}
theorem CqG.up (h : CqG w X Mc base T bl pn vl ll M Pn C) (hT : T ≤ T') : CqG w X Mc base T' bl pn vl ll M Pn C :=
  ⟨h.n8, h.inj, h.own, h.vlm, h.sub, h.mx, h.dis, fun i hi => (h.nd i hi).up hT, h.ids, h.cp, h.co⟩
/-- the law's cluster; E: blocks of the law's own -/
def TgC (s : Nat) (w : World) (bl : CBk → Nat) (pn : Nat → Nat) (T ll : Nat) (C : CqS) (E : Nat → Prop) : Prop := ∃ X Mc, CqAt w X Mc s T bl pn ll C ∧ ∀ k, E k → X k ∧ ¬ Mc k ∧ s ≤ k
variable {E : Nat → Prop}
theorem TgC.new (h : TgC s w bl pn T ll C E) (hf : Fr (fun _ => False) w w') : TgC s w' bl pn T ll C E := by
  obtain ⟨X, Mc, ⟨vl, M, Pn, hc⟩, he⟩ := h
  exact ⟨X, Mc, ⟨vl, M, Pn, hc.new hf⟩, he⟩
theorem TgC.own (h : TgC s w bl pn T ll C E) (hf : Fr (fun _ => False) w w') {q : Nat} (h1 : w.heap.size ≤ q) (h2 : q < w'.heap.size) (hs : s ≤ w.heap.size) : TgC s w' bl pn T ll C (fun k => E k ∨ k = q) := by
  obtain ⟨X, Mc, ⟨vl, M, Pn, hc⟩, he⟩ := h
  refine ⟨fun k => X k ∨ k = q, Mc, ⟨vl, M, Pn, hc.fr hf (fun _ h => h.elim) (fun k hk => .inl hk) (fun k hk => ?_)⟩, fun k hk => ?_⟩
  · rcases hk with hk | rfl
    · exact .inl hk
    · exact .inr ⟨h1, h2⟩
  · rcases hk with hk | rfl
    · exact ⟨.inl (he k hk).1, (he k hk).2⟩
    · exact ⟨.inr rfl, fun hm => by have := hc.xlt _ (hc.mx _ hm).1; omega, by omega⟩
theorem TgC.put (h : TgC s w bl pn T ll C E) (hf : Fr E w w') : TgC s w' bl pn T ll C E := by
  obtain ⟨X, Mc, ⟨vl, M, Pn, hc⟩, he⟩ := h
  exact ⟨X, Mc, ⟨vl, M, Pn, hc.fr hf (fun k hk => ⟨(he k hk).1, (he k hk).2.2, (he k hk).2.1⟩) (fun _ h => h) (fun _ h => .inl h)⟩, he⟩
/-- behind a call on the cluster -/
theorem TgC.call {C' : CqS} {T' ll' : Nat} {X Mc X' Mc' : Nat → Prop} (hc : CqG w X Mc s T bl pn vl ll M Pn C) (he : ∀ k, E k → X k ∧ ¬ Mc k ∧ s ≤ k) (hg : Gr X Mc w X' Mc' w') (hc' : CqAt w' X' Mc' s T' bl pn ll' C') : TgC s w' bl pn T' ll' C' E ∧ Fr (fun k => s ≤ k ∧ ¬ E k) w w' :=
  ⟨⟨X', Mc', hc', fun k hk => ⟨hg.up k (he k hk).1, fun hm => by
    rcases hg.ms k hm with e | e
    · exact (he k hk).2.1 e
    · have := hc.xlt _ (he k hk).1; omega, (he k hk).2.2⟩⟩, hg.fr.weak (fun k hk => ⟨(hc.mx k hk).2, fun hke => (he k hke).2.1 hk⟩)⟩
theorem TgC.lt (h : TgC s w bl pn T ll C E) : ∀ k, E k → k < w.heap.size := by
  obtain ⟨X, Mc, ⟨vl, M, Pn, hc⟩, he⟩ := h
  exact fun k hk => hc.xlt k (he k hk).1
theorem TgC.sz (h : TgC s w bl pn T ll C E) : s ≤ w.heap.size := by
  obtain ⟨X, Mc, ⟨vl, M, Pn, hc⟩, he⟩ := h
  have h1 := hc.mx _ (hc.own .P trivial).1
  have := hc.xlt _ h1.1
  omega
theorem TgC.up (h : TgC s w bl pn T ll C E) (hT : T ≤ T') : TgC s w bl pn T' ll C E := by
  obtain ⟨X, Mc, ⟨vl, M, Pn, hc⟩, he⟩ := h
  exact ⟨X, Mc, ⟨vl, M, Pn, hc.up hT⟩, he⟩
theorem TgC.less {E' : Nat → Prop} (h : TgC s w bl pn T ll C E) (hE : ∀ k, E' k → E k) : TgC s w bl pn T ll C E' := by
  obtain ⟨X, Mc, hc, he⟩ := h
  exact ⟨X, Mc, hc, fun k hk => he k (hE k hk)⟩
end
end Go.Proofs.YthgbcgphkddmgaaGreat
namespace Go.Proofs.YthgbcgphkddmgaaGreat
open Go.RowKit
set_option linter.unusedVariables false
set_option linter.unusedSimpArgs false
set_option pp.deepTerms true
theorem crefs_new (n fuel : Nat) : refsTo (newC n fuel) n = [] := by
  have : ∀ k, refsTo (newC n fuel) k = [] := fun k => by
    induction k with
    | zero => rfl
    | succ k ih =>
      show catTo _ k ++ refsN (newN _ _) = []
      have ih : catTo (fun i => refsN ((newC n fuel).nd i)) k = [] := ih
      rw [ih]
      rfl
  exact this n
/-- the cluster when q actors have been made -/
structure TgQ (n m : Nat) (Q : Nat → List Int) (q : Nat) (C : CqS) : Prop where
  s : TgS C n m Q (ixN n q) (fun _ => 20)
  sp : ∀ i, i < n → (C.nd i).spawned = (ixN n q i).length
  cnt : C.cnt = fun _ => 0
  tab : C.tab = fun _ _ => none
  hn : C.hn = q
  held : ∀ j, j < m → C.held (refG n j) = decide (j < q)
  pt : ∀ i, i < n → pot (C.nd i) ≤ 4100
/-- what does not change while the sinks turn -/
structure TgF (n m : Nat) (C : CqS) : Prop where
  cnt : C.cnt = fun _ => 0
  tab : C.tab = fun _ _ => none
  hn : C.hn = m
  held : ∀ j, j < m → C.held (refG n j) = true
theorem TgQ.fix {n m : Nat} {Q : Nat → List Int} {C : CqS} (h : TgQ n m Q m C) : TgF n m C := ⟨h.cnt, h.tab, h.hn, fun j hj => by rw [h.held j hj]; exact decide_eq_true hj⟩
theorem TgS.weak {C : CqS} {n m : Nat} {Q : Nat → List Int} {ix : Nat → List Nat} {f g : Nat → Nat} (h : TgS C n m Q ix f) (hg : ∀ k, k < n → f k ≤ g k) : TgS C n m Q ix g :=
  ⟨h.cn, fun i hi => by
    obtain ⟨⟨L, h1, h2, h3⟩, h4⟩ := h.nd i hi
    exact ⟨⟨L, h1, h2, Nat.le_trans h3 (hg i hi)⟩, h4⟩, h.mix⟩
def frT (i : Nat) : Nat → Nat := fun k => if k < i then 0 else 20
def frd (nf : Nat) (Ff : Nat → Bool) (j : Nat) : Bool := decide (j < nf) && Ff j
/-- who is known to be alive when k actors have been looked at -/
def al0 (nf : Nat) (Ff : Nat → Bool) (t k : Nat) (j : Nat) : Bool := (j == t) || (decide (j < k) && !frd nf Ff j)
structure TgH (n m nf : Nat) (Ff : Nat → Bool) (t k : Nat) (C : CqS) : Prop where
  tab : ∃ c d, C.tab = updN (fun _ _ => none) 0 (Nm.updT (fun _ => none) 3 ⟨refG n t, c, d⟩)
  hn : C.hn = m
  held : ∀ j, j < m → C.held (refG n j) = !(decide (j < k) && frd nf Ff j)
theorem RdB.at {w w' : World} {B : Option Addr} {n : Nat} {F : Nat → Bool} (h : RdB w B n F) (hb : Below w.heap.size w w') {k : Nat} (hk : k < n) : ∃ b off, B = some ⟨b, off, none⟩ ∧ w'.cell? ⟨b, off + k, none⟩ = some (.bool (F k)) := by
  obtain ⟨b, off, e, hlt, hc⟩ := h (by omega)
  exact ⟨b, off, e, (hb.cell (p := ⟨b, off + k, none⟩) hlt).trans (hc k hk)⟩
theorem al0_set {nf t k m : Nat} {Ff : Nat → Bool} (hf : frd nf Ff k = false) (j : Nat) : (if j = k then true else al0 nf Ff t k j) = al0 nf Ff t (k + 1) j := by
  unfold al0
  by_cases e : j = k
  · subst e
    rw [if_pos rfl, hf]
    simp
  · rw [if_neg e]
    have : decide (j < k + 1) = decide (j < k) := by
      by_cases h : j < k
      · rw [decide_eq_true h, decide_eq_true (by omega)]
      · rw [decide_eq_false h, decide_eq_false (by omega)]
    rw [this]
theorem al0_skip {nf t k : Nat} {Ff : Nat → Bool} (hf : frd nf Ff k = true) (j : Nat) : al0 nf Ff t (k + 1) j = al0 nf Ff t k j := by
  unfold al0
  by_cases e : j = k
  · subst e
    rw [hf]
    simp
  · have : decide (j < k + 1) = decide (j < k) := by
      by_cases h : j < k
      · rw [decide_eq_true h, decide_eq_true (by omega)]
      · rw [decide_eq_false h, decide_eq_false (by omega)]
    rw [this]
theorem TgH.skip {n m nf t k : Nat} {Ff : Nat → Bool} {C : CqS} (h : TgH n m nf Ff t k C) (hf : frd nf Ff k = false) : TgH n m nf Ff t (k + 1) C :=
  ⟨h.tab, h.hn, fun j hj => by
    rw [h.held j hj]
    by_cases e : j = k
    · subst e
      rw [hf]
      simp
    · have : decide (j < k + 1) = decide (j < k) := by
        by_cases h : j < k
        · rw [decide_eq_true h, decide_eq_true (by omega)]
        · rw [decide_eq_false h, decide_eq_false (by omega)]
      rw [this]⟩
theorem TgH.free {n m nf t k : Nat} {Ff : Nat → Bool} {C : CqS} (hn : okN3 n) (hm : m ≤ 20) (hk : k < m) (h : TgH n m nf Ff t k C) (hf : frd nf Ff k = true) : TgH n m nf Ff t (k + 1) ⟨C.n, C.nd, C.cnt, C.tab, fun x => C.held x && !(x == refG n k), C.hn⟩ :=
  ⟨h.tab, h.hn, fun j hj => by
    show (C.held (refG n j) && !(refG n j == refG n k)) = _
    rw [h.held j hj]
    by_cases e : j = k
    · subst e
      rw [hf]
      simp
    · have e2 : (refG n j == refG n k) = false := by
        rcases hb : refG n j == refG n k with _ | _
        · rfl
        · exact absurd (refG_inj hn (by omega) (by omega) (by simpa using hb)) e
      have : decide (j < k + 1) = decide (j < k) := by
        by_cases h : j < k
        · rw [decide_eq_true h, decide_eq_true (by omega)]
        · rw [decide_eq_false h, decide_eq_false (by omega)]
      rw [this, e2]
      simp⟩
theorem rowA_take {m : Nat} {l : List Int} {p i : Nat} {A : Nat → Bool} (hp : p < min l.length 4) : Tg.rowA i ((tgt m l).take (p + 1)) A = Tg.upA (Tg.rowA i ((tgt m l).take p) A) i (restK (lst l p) m) := by
  have hl : p < (tgt m l).length := by unfold tgt; rw [List.length_map, List.length_take]; omega
  have hpl : p < l.length := by omega
  have e : (tgt m l)[p] = restK (lst l p) m := by
    unfold tgt lst
    simp [List.getD_eq_getElem?_getD, List.getElem?_eq_getElem hpl]
  rw [List.take_add_one, List.getElem?_eq_getElem hl, e]
  unfold Tg.rowA
  rw [List.foldl_append]
  rfl
theorem tgt_take {m : Nat} {l : List Int} : (tgt m l).take (min l.length 4) = tgt m l := by
  refine List.take_of_length_le ?_
  unfold tgt
  rw [List.length_map, List.length_take]
  omega
def selG (n : Nat) (F : Nat → Bool) (k : Nat) : List Int := ((List.range k).filter F).map (refG n)
theorem selG_succ (n : Nat) (F : Nat → Bool) (k : Nat) : selG n F (k + 1) = selG n F k ++ (if F k then [refG n k] else []) := by
  unfold selG
  rw [List.range_succ, List.filter_append, List.map_append]
  congr 1
  rcases h : F k with _ | _ <;> simp [h]
theorem selG_len (n : Nat) (F : Nat → Bool) (k : Nat) : (selG n F k).length ≤ k := by
  unfold selG
  rw [List.length_map]
  exact Nat.le_trans (List.length_filter_le _ _) (by simp)
theorem mem_selG {n : Nat} {F : Nat → Bool} {k : Nat} {x : Int} : x ∈ selG n F k ↔ ∃ j, j < k ∧ F j = true ∧ x = refG n j := by
  unfold selG
  rw [List.mem_map]
  refine ⟨fun ⟨j, hj, e⟩ => ?_, fun ⟨j, h1, h2, e⟩ => ⟨j, List.mem_filter.2 ⟨List.mem_range.2 h1, h2⟩, e.symm⟩⟩
  obtain ⟨h1, h2⟩ := List.mem_filter.1 hj
  exact ⟨j, List.mem_range.1 h1, h2, e.symm⟩
/-- two rows of the law's own, apart -/
structure TwoI (w : World) (base : Nat) (v1 v2 : Value) (l1 l2 : List Int) : Prop where
  o1 : OwnI w base v1 l1
  o2 : OwnI w base v2 l2
  ap : ∀ k, v1.ownBlock = some k → v2.ownBlock ≠ some k
theorem TwoI.new {w w' : World} {base : Nat} {v1 v2 : Value} {l1 l2 : List Int} (h : TwoI w base v1 v2 l1 l2) (hf : Fr (fun _ => False) w w') : TwoI w' base v1 v2 l1 l2 := ⟨hf.row h.o1 (fun _ _ h => h), hf.row h.o2 (fun _ _ h => h), h.ap⟩
theorem TwoI.sym {w : World} {base : Nat} {v1 v2 : Value} {l1 l2 : List Int} (h : TwoI w base v1 v2 l1 l2) : TwoI w base v2 v1 l2 l1 := ⟨h.o2, h.o1, fun k h2 h1 => h.ap k h1 h2⟩
theorem TwoI.app {w w' : World} {base : Nat} {v1 v2 v' : Value} {l1 l2 l' : List Int} (h : TwoI w base v1 v2 l1 l2) (ho : OwnI w' base v' l') (hg : w.grownBy w' v1.ownBlock) (hat : v'.ownBlock = v1.ownBlock ∨ ∃ g, v'.ownBlock = some g ∧ w.heap.size ≤ g) : TwoI w' base v' v2 l' l2 := by
  have hf : Fr (fun k => v1.ownBlock = some k) w w' := Fr.of_grown hg (fun k hk => .inl hk)
  refine ⟨ho, hf.row h.o2 (fun k hk e => h.ap k e hk), fun k hk e => ?_⟩
  rcases hat with e2 | ⟨g, e2, hg2⟩
  · exact h.ap k (e2.symm.trans hk) e
  · rw [e2] at hk
    injection hk with hk
    have := (h.o2.blk k e).2
    omega
theorem nmAll_none (x : Int) : nmAll (fun _ => none) x = false := by
  have h : Nm.bndT (fun _ => none) (Nm.cntT fun _ => none) = [] := rfl
  unfold nmAll nmHas
  rw [h]
  rfl
theorem nmAll_one {r c d x : Int} (hr : 0 < r) : nmAll (Nm.updT (fun _ => none) 3 ⟨r, c, d⟩) x = (x == r) := by
  have h1 : Nm.cntT (Nm.updT (fun _ => none) 3 ⟨r, c, d⟩) = 1 := rfl
  have h2 : Nm.rwT (Nm.updT (fun _ => none) 3 ⟨r, c, d⟩) 0 = ⟨r, c, d⟩ := rfl
  have h3 : Nm.bndT (Nm.updT (fun _ => none) 3 ⟨r, c, d⟩) 1 = [0] := by
    rw [Nm.bndT_succ, h2]
    rw [if_pos hr]
    rfl
  unfold nmAll nmHas
  rw [h1, h3]
  show decide (x ∈ [(Nm.rwT (Nm.updT (fun _ => none) 3 ⟨r, c, d⟩) 0).ref]) = _
  rw [h2]
  by_cases e : x = r
  · subst e; simp
  · have e2 : (x == r) = false := by simpa using e
    rw [e2]
    exact decide_eq_false (by simpa using e)
theorem TgH.rt {n m nf t : Nat} {Ff : Nat → Bool} {C : CqS} (hn : okN3 n) (hm : m ≤ 20) (ht : t < m) (h : TgH n m nf Ff t m C) (hcn : C.n = n) {j : Nat} (hj : j < m) : rtTo C C.n (refG n j) = al0 nf Ff t m j := by
  obtain ⟨c, d, htab⟩ := h.tab
  have hpos := refG_pos (n := n) (i := t)
  have hbe : (refG n j == refG n t) = (j == t) := by
    rcases hb : j == t with _ | _
    · rcases hb2 : refG n j == refG n t with _ | _
      · rfl
      · have hj20 : j < 20 := by omega
        have ht20 : t < 20 := by omega
        have e0 : refG n j = refG n t := by simpa using hb2
        have e1 := refG_inj hn hj20 ht20 e0
        subst e1
        simp at hb
    · have : j = t := by simpa using hb
      subst this
      simp
  have hany : anyOf (fun i => nmAll (C.tab i) (refG n j)) C.n = (j == t) := by
    rw [htab, ← hbe]
    rcases hb : refG n j == refG n t with _ | _
    · refine anyOf_false.2 (fun i hi => ?_)
      by_cases e : i = 0
      · subst e
        rw [updN_self, nmAll_one (by omega)]
        exact hb
      · rw [updN_ne _ _ e]
        exact nmAll_none _
    · refine anyOf_true.2 ⟨0, by rw [hcn]; rcases hn with rfl | rfl | rfl <;> omega, ?_⟩
      rw [updN_self, nmAll_one (by omega)]
      exact hb
  unfold rtTo
  rw [hany, h.held j hj, decide_eq_true hj]
  unfold al0
  rw [decide_eq_true hj, Bool.true_and, Bool.true_and, Bool.or_comm]
theorem TgH.wf {n m nf t k : Nat} {Ff : Nat → Bool} {C : CqS} (hn : okN3 n) (hm : m ≤ 20) (ht : t < m) (h : TgH n m nf Ff t k C) : ∀ i j, i < C.n → j < Nm.cntT (C.tab i) → Wf (Nm.rwT (C.tab i) j).ref := by
  obtain ⟨c, d, htab⟩ := h.tab
  intro i j hi hj
  rw [htab] at hj ⊢
  by_cases e : i = 0
  · subst e
    rw [updN_self] at hj ⊢
    have hj : j < 1 := hj
    obtain rfl : j = 0 := by omega
    exact refG_wf hn (by omega)
  · rw [updN_ne _ _ e] at hj
    exact absurd hj (Nat.not_lt_zero _)
theorem srt_is {L L' : List Int} (h : L.Pairwise (· < ·)) (hn : L'.Nodup) (hm : ∀ x, x ∈ L' ↔ x ∈ L) : srt L' = L := by
  have hnd : L.Nodup := h.imp (by intro a b h; omega)
  have hp : L'.Perm L := (List.perm_ext_iff_of_nodup hn hnd).2 hm
  rw [srt_eq hp]
  exact List.Perm.eq_of_pairwise (le := fun a b : Int => a ≤ b) (fun a b _ _ h1 h2 => by omega) (srt_pairwise _) (h.imp (by intro a b h; omega)) (srt_perm _)
theorem selG_nodup {n : Nat} (hn : okN3 n) (F : Nat → Bool) : ∀ k, k ≤ 20 → (selG n F k).Nodup
  | 0, _ => List.nodup_nil
  | k + 1, hk => by
    rw [selG_succ]
    rcases F k with _ | _
    · simpa using selG_nodup hn F k (by omega)
    · rw [if_pos rfl, List.nodup_append]
      refine ⟨selG_nodup hn F k (by omega), by simp, fun a ha b hb e => ?_⟩
      rw [List.mem_singleton] at hb
      obtain ⟨j, hj, _, e2⟩ := mem_selG.1 ha
      have := refG_inj hn (by omega) (by omega) (e2.symm.trans (e.trans hb))
      omega
set_option maxRecDepth 100000 in
theorem eqI_any {w : World} {B1 B2 n m c d : Nat} {A B : Option Addr} {l : List Int} (h1 : OwnI w B1 (.slice A n c) l) (h2 : OwnI w B2 (.slice B m d) l) (hn : n = l.length) (hm : m = l.length) (hl : l.length ≤ 1000) :
    Calls Tryz.prog 17 #[.slice A n c, .slice B m d] w fun e w' => e = .returned (.bool true) ∧ Fr (fun _ => False) w w' := by
  subst hn
  subst hm
  exact (equalI_same A B _ _ c d (lst l) (lst l) w rfl (by omega) h1.rd h2.rd (fun k _ => rfl)).mono fun e w' ⟨he, hb⟩ => ⟨he, Fr.of_below hb⟩
/-- what is collected first -/
theorem tg_first {n m nf t : Nat} {Ff : Nat → Bool} {Q : Nat → List Int} {C : CqS} {K : List KqS} {L : List Int} (hn : okN3 n) (hm : 1 ≤ m ∧ m ≤ 20) (ht : t < m) (hS : TgS C n m Q (ixN n m) (fun _ => 0)) (hH : TgH n m nf Ff t m C) (hK : K.map (·.ref) = refsTo C C.n) (hof : ∀ k, k ∈ K → KqOf C k)
    (hmem : ∀ x, x ∈ L ↔ x ∈ K.map (·.ref) ∧ ¬ Rch K x) : ∀ x, x ∈ L ↔ ∃ j, j < m ∧ Tg.itA (fun i => tgt m (Q i)) m m (al0 nf Ff t m) j = false ∧ x = refG n j := by
  have hsp := hS.spec (In := fun _ => true) (A0 := al0 nf Ff t m) hn hm (fun i hi j => by rw [mem_ixN]; simp) (fun j hj _ => hH.rt hn hm.2 ht hS.cn hj) hK hof
  have hiff := fun {i : Nat} (hi : i < m) => hsp.iff (fun _ _ _ => rfl) hi
  intro x
  rw [hmem x]
  refine ⟨fun ⟨h1, h2⟩ => ?_, fun ⟨j, hj, hd, e⟩ => ?_⟩
  · obtain ⟨k, hk, rfl⟩ := List.mem_map.1 h1
    obtain ⟨j, hj, _, e, _⟩ := hsp.mem k hk
    rw [e] at h2
    refine ⟨j, hj, ?_, e⟩
    rcases hb : Tg.itA (fun i => tgt m (Q i)) m m (al0 nf Ff t m) j with _ | _
    · rfl
    · exact absurd ((hiff hj).2 hb) h2
  · subst e
    obtain ⟨k, hk, e⟩ := hsp.all j hj rfl
    refine ⟨e ▸ List.mem_map.2 ⟨k, hk, rfl⟩, fun hr => ?_⟩
    rw [(hiff hj).1 hr] at hd
    cases hd
/-- nothing is collected then -/
theorem tg_again {n m nf t : Nat} {Ff : Nat → Bool} {Q : Nat → List Int} {C : CqS} {K : List KqS} {L : List Int} {ix : Nat → List Nat} (hn : okN3 n) (hm : 1 ≤ m ∧ m ≤ 20) (ht : t < m) (hS : TgS C n m Q ix (fun _ => 0)) (hH : TgH n m nf Ff t m C) (hK : K.map (·.ref) = refsTo C C.n) (hof : ∀ k, k ∈ K → KqOf C k)
    (hix : ∀ i, i < n → ∀ j, j ∈ ix i ↔ (j < m ∧ j % n = i ∧ Tg.itA (fun i => tgt m (Q i)) m m (al0 nf Ff t m) j = true)) (hmem : ∀ x, x ∈ L ↔ x ∈ K.map (·.ref) ∧ ¬ Rch K x) : L = [] := by
  have hsp := hS.spec (In := Tg.itA (fun i => tgt m (Q i)) m m (al0 nf Ff t m)) (A0 := al0 nf Ff t m) hn hm hix (fun j hj _ => hH.rt hn hm.2 ht hS.cn hj) hK hof
  refine List.eq_nil_iff_forall_not_mem.2 (fun x hx => ?_)
  obtain ⟨h1, h2⟩ := (hmem x).1 hx
  obtain ⟨k, hk, rfl⟩ := List.mem_map.1 h1
  obtain ⟨j, hj, hin, e, _⟩ := hsp.mem k hk
  rw [e] at h2
  exact h2 (hsp.rch (fun _ _ h => h) hj hin)
theorem TgQ.start (n m : Nat) (Q : Nat → List Int) : TgQ n m Q 0 (newC n 5) :=
  ⟨⟨rfl, fun i hi => ⟨⟨[], ⟨rfl, by show 1 ≤ 5; omega, rfl, fun r hr => (by cases hr), List.Pairwise.nil⟩, rfl, Nat.zero_le _⟩, rfl⟩, fun i hi j hj => (by cases hj)⟩, fun i hi => rfl, rfl, rfl, rfl, fun j hj => (decide_eq_false (by omega)).symm, fun i hi => by show 0 + 201 * 0 ≤ _; omega⟩
theorem TgQ.next {n m q : Nat} {Q : Nat → List Int} {C : CqS} (hn : okN3 n) (hm : m ≤ 20) (hq : q < m) (h : TgQ n m Q q C) :
    q % n < C.n ∧ (C.nd (q % n)).has ((C.nd (q % n)).id * 1000 + (C.nd (q % n)).spawned + 1) = false ∧ (C.nd (q % n)).acts.length < 60 ∧ (C.nd (q % n)).spawned < 999 ∧ (C.nd (q % n)).id * 1000 + (C.nd (q % n)).spawned + 1 = refG n q ∧
      TgQ n m Q (q + 1) ⟨C.n, updN C.nd (q % n) (spawnN (C.nd (q % n)) sinkS (stG n m (Q q))).1, C.cnt, C.tab, fun x => C.held x || x == (C.nd (q % n)).id * 1000 + (C.nd (q % n)).spawned + 1, C.hn + 1⟩ := by
  obtain ⟨h1, h2, h3, h4, h5, h6, h7⟩ := h.s.spawn (C' := ⟨C.n, updN C.nd (q % n) (spawnN (C.nd (q % n)) sinkS (stG n m (Q q))).1, C.cnt, C.tab, fun x => C.held x || x == (C.nd (q % n)).id * 1000 + (C.nd (q % n)).spawned + 1, C.hn + 1⟩) hn hm hq h.sp rfl rfl
  refine ⟨by rw [h.s.cn]; exact h1, h2, h3, h4, h5, h6, h7, h.cnt, h.tab, by show C.hn + 1 = _; rw [h.hn], fun j hj => ?_, fun i hi => ?_⟩
  · show (C.held (refG n j) || refG n j == _) = _
    rw [h.held j hj, h5]
    by_cases e : j = q
    · subst e
      simp
    · have e2 : (refG n j == refG n q) = false := by
        rcases hb : refG n j == refG n q with _ | _
        · rfl
        · exact absurd (refG_inj hn (by omega) (by omega) (by simpa using hb)) e
      rw [e2, Bool.or_false]
      by_cases h8 : j < q
      · rw [decide_eq_true h8, decide_eq_true (by omega)]
      · rw [decide_eq_false h8, decide_eq_false (by omega)]
  · obtain ⟨⟨L, hL, hrs, _⟩, _⟩ := h6.nd i hi
    obtain ⟨L0, hL0, hrs0, _⟩ := (h6.nd i hi).1
    have hlen : ((updN C.nd (q % n) (spawnN (C.nd (q % n)) sinkS (stG n m (Q q))).1) i).acts.length ≤ 20 := by
      have e1 := hL.acts
      have e2 : L.length = (ixN n (q + 1) i).length := by
        have := congrArg List.length hrs
        unfold rsI at this
        simpa using this
      have e3 : (ixN n (q + 1) i).length ≤ q + 1 := ixN_le
      rw [show ((updN C.nd (q % n) (spawnN (C.nd (q % n)) sinkS (stG n m (Q q))).1) i).acts = L.map skA from e1, List.length_map]
      omega
    have hout : ((updN C.nd (q % n) (spawnN (C.nd (q % n)) sinkS (stG n m (Q q))).1) i).out = [] := hL.out
    show pot (updN C.nd (q % n) (spawnN (C.nd (q % n)) sinkS (stG n m (Q q))).1 i) ≤ _
    unfold pot
    rw [hout]
    simp only [List.length_nil]
    omega
theorem stG_at {n m : Nat} {l : List Int} {j : Nat} (h : j < min l.length 4) : stN (stG n m l) j = (6, refG n (restK (lst l j) m)) := by
  have hj : j < l.length := by omega
  unfold stN stG tgt lst
  rw [List.getD_eq_getElem?_getD, List.getElem?_map, List.getElem?_map, List.getElem?_take, if_pos (by omega), List.getD_eq_getElem?_getD, List.getElem?_eq_getElem hj]
  rfl
theorem stG_len {n m : Nat} {l : List Int} : (stG n m l).length = min l.length 4 := by
  unfold stG tgt
  rw [List.length_map, List.length_map, List.length_take]
  omega
theorem stG_ok {n m : Nat} (hn : okN3 n) (hm : 1 ≤ m ∧ m ≤ 20) (l : List Int) : RunOk ⟨false, stG n m l, 0, false, false, 0⟩ := by
  refine ⟨fun h => (by cases h), by show (stG n m l).length ≤ 10; rw [stG_len]; omega, fun i => ?_⟩
  show Wf (stN (stG n m l) i).2
  by_cases h : i < min l.length 4
  · rw [stG_at h]
    exact refG_wf hn (by have := restK_lt (lst l i) hm.1; omega)
  · have : stN (stG n m l) i = (0, 0) := by
      unfold stN
      rw [List.getD_eq_getElem?_getD, List.getElem?_eq_none (by rw [stG_len]; omega)]
      rfl
    rw [this]
    exact Wf.of (by decide) (by decide)
/-- a state that the law has made lies somewhere -/
theorem stAt_row {w : World} {base : Nat} {A : Option Addr} {c : Nat} {l : List (Int × Int)} (h : w.ownsRow base 36 4 (.slice A l.length c) l.length (flatC (stC l) l.length)) : StAt w (fun _ => True) A c l := by
  obtain ⟨A', c', e, h1, h2, h3⟩ := own_any h
  have e' : A = A' ∧ c = c' := by
    injection e with e1 _ e3
    exact ⟨e1, e3⟩
  obtain ⟨rfl, rfl⟩ := e'
  refine ⟨h1, h2, fun h0 => ?_⟩
  obtain ⟨g, cap, hv, hb, hlt, _⟩ := own_form h h0
  injection hv with e1 _ e3
  subst e1
  refine ⟨g, 0, rfl, hlt, trivial, fun i hi j u hu => ?_⟩
  have hj : j < 4 := by
    rcases Nat.lt_or_ge j 4 with hh | hh
    · exact hh
    · rw [List.getElem?_eq_none (by simpa [stC] using hh)] at hu; cases hu
  rw [Nat.zero_add, own_cellC h (fun _ => rfl) hi hj]
  exact hu
theorem pot_spawn {N : NdS} {st : List (Int × Int)} (hhas : N.has (N.id * 1000 + N.spawned + 1) = false) (h1 : N.acts.length < 60) (h2 : N.spawned < 999) : pot (spawnN N sinkS st).1 = pot N + 201 := by
  have hmk : makeN sinkS st = some ⟨false, st, 0, false, false, 0⟩ := by unfold makeN; rw [if_pos rfl]
  have hins : ∀ (a : ActS) (l : List ActS), (insA a l).length = l.length + 1 := fun a l => by
    induction l with
    | nil => rfl
    | cons b l ih =>
      unfold insA
      split
      · rfl
      · rw [List.length_cons, ih]; rfl
  unfold pot spawnN
  rw [hmk]
  dsimp only
  rw [hhas, if_neg (by simp), if_neg (by omega)]
  dsimp only
  rw [hins]
  omega
end Go.Proofs.YthgbcgphkddmgaaGreat
