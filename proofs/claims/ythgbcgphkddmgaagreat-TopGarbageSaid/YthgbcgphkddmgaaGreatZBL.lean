/- Sinks on some nodes: how the law's numbers fit together. Two appends in a statement that draws its order: what has been done so far. A new cluster: what its rounds keep. A new cluster: what it makes; and that it is a quiet one in the end. -/
import Derived.Test.YthgbcgphkddmgaaGreatZBI
import Derived.Test.YthgbcgphkddmgaaGreatZBJ
import Derived.Test.YthgbcgphkddmgaaGreatZBK
import Derived.Test.YthgbcgphkddmgaaGreatZBG
import Derived.Deep.AppendLies
namespace Go.Proofs.YthgbcgphkddmgaaGreat
open Go.RowKit
set_option linter.unusedVariables false
set_option linter.unusedSimpArgs false
/-- the reference of the actor i -/
def refG (n i : Nat) : Int := (((1 + i % n) * 1000 + i / n + 1 : Nat) : Int)
def tgt (m : Nat) (l : List Int) : List Nat := (l.take 4).map fun k => restK k m
def stG (n m : Nat) (l : List Int) : List (Int × Int) := (tgt m l).map fun t => (6, refG n t)
theorem tgt_lt {m : Nat} (hm : 1 ≤ m) {l : List Int} {t : Nat} (h : t ∈ tgt m l) : t < m := by
  obtain ⟨k, _, rfl⟩ := List.mem_map.1 h
  exact restK_lt k hm
theorem tgt_len (m : Nat) (l : List Int) : (tgt m l).length ≤ 4 := by unfold tgt; rw [List.length_map, List.length_take]; omega
theorem refG_pos {n i : Nat} : 1001 ≤ refG n i := by
  unfold refG
  generalize i % n = a
  generalize i / n = b
  omega
def okN3 (n : Nat) : Prop := n = 1 ∨ n = 2 ∨ n = 3
theorem refG_lt {n i : Nat} (hn : okN3 n) (hi : i < 20) : refG n i < 4000 ∧ ((((i % n : Nat) : Int) + 1) * 1000 < refG n i ∧ refG n i < (((i % n : Nat) : Int) + 1) * 1000 + 1000) := by
  unfold refG
  rcases hn with rfl | rfl | rfl <;> omega
theorem refG_inj {n i j : Nat} (hn : okN3 n) (hi : i < 20) (hj : j < 20) (h : refG n i = refG n j) : i = j := by
  unfold refG at h
  rcases hn with rfl | rfl | rfl <;> omega
theorem refG_wf {n i : Nat} (hn : okN3 n) (hi : i < 20) : Wf (refG n i) := by
  have := refG_lt hn hi
  have := refG_pos (n := n) (i := i)
  exact Wf.of (by omega) (by omega)
theorem refG_mono {n i j : Nat} (hn : okN3 n) (hi : i < 20) (hj : j < 20) (hm : i % n = j % n) (h : i < j) : refG n i < refG n j := by
  unfold refG
  rcases hn with rfl | rfl | rfl <;> omega
/-- the actors below q that node i hosts -/
def ixN (n q i : Nat) : List Nat := (List.range q).filter fun j => j % n == i
theorem ixN_succ (n q i : Nat) : ixN n (q + 1) i = ixN n q i ++ (if q % n = i then [q] else []) := by
  unfold ixN
  rw [List.range_succ, List.filter_append]
  congr 1
  by_cases h : q % n = i <;> simp [h]
theorem mem_ixN {n q i j : Nat} : j ∈ ixN n q i ↔ j < q ∧ j % n = i := by
  unfold ixN
  rw [List.mem_filter, List.mem_range]
  simp
theorem ixN_len {n : Nat} (hn : okN3 n) {i : Nat} (hi : i < n) : ∀ q, (ixN n q i).length = (q + n - 1 - i) / n
  | 0 => by
    show 0 = _
    rcases hn with rfl | rfl | rfl <;> omega
  | q + 1 => by
    rw [ixN_succ, List.length_append, ixN_len hn hi q]
    by_cases h : q % n = i
    · rw [if_pos h]
      simp only [List.length_singleton]
      rcases hn with rfl | rfl | rfl <;> omega
    · rw [if_neg h]
      simp only [List.length_nil]
      rcases hn with rfl | rfl | rfl <;> omega
theorem ixN_at {n : Nat} (hn : okN3 n) (q : Nat) : (ixN n q (q % n)).length = q / n := by
  rw [ixN_len hn (by rcases hn with rfl | rfl | rfl <;> omega)]
  rcases hn with rfl | rfl | rfl <;> omega
theorem ixN_le {n q i : Nat} : (ixN n q i).length ≤ q := by
  unfold ixN
  exact Nat.le_trans (List.length_filter_le _ _) (by simp)
def rsI (n m : Nat) (Q : Nat → List Int) (l : List Nat) : List (Int × List (Int × Int)) := l.map fun j => (refG n j, stG n m (Q j))
/-- a node of the sinks of rs, at most f of which have had no turn -/
def SkX (N : NdS) (rs : List (Int × List (Int × Int))) (f : Nat) : Prop := ∃ L, SkN N L ∧ L.map (fun s => (s.ref, s.st)) = rs ∧ frS L ≤ f
/-- the law's cluster: node i hosts the actors ix i -/
structure TgS (C : CqS) (n m : Nat) (Q : Nat → List Int) (ix : Nat → List Nat) (f : Nat → Nat) : Prop where
  cn : C.n = n
  nd : ∀ i, i < n → SkX (C.nd i) (rsI n m Q (ix i)) (f i) ∧ (C.nd i).id = (i : Int) + 1
  mix : ∀ i, i < n → ∀ j, j ∈ ix i → j < 20 ∧ j % n = i
theorem SkX.refs {N : NdS} {rs : List (Int × List (Int × Int))} {f : Nat} (h : SkX N rs f) : refsN N = rs.map (·.1) := by
  obtain ⟨L, h1, rfl, _⟩ := h
  rw [h1.refs, List.map_map]
  rfl
section
variable {C : CqS} {n m : Nat} {Q : Nat → List Int} {ix : Nat → List Nat} {f : Nat → Nat}
theorem TgS.refs (h : TgS C n m Q ix f) {i : Nat} (hi : i < n) : refsN (C.nd i) = (ix i).map (refG n) := by
  rw [(h.nd i hi).1.refs]
  unfold rsI
  rw [List.map_map]
  rfl
theorem TgS.srt (h : TgS C n m Q ix f) (hn : okN3 n) : ∀ k, k ≤ n → (refsTo C k).Pairwise (· < ·) ∧ ∀ x, x ∈ refsTo C k → x < ((k : Int) + 1) * 1000
  | 0, _ => ⟨List.Pairwise.nil, fun x hx => (by cases hx)⟩
  | k + 1, hk => by
    obtain ⟨h1, h2⟩ := h.srt hn k (by omega)
    have hk : k < n := hk
    have hr := h.refs hk
    have hs : (refsN (C.nd k)).Pairwise (· < ·) := by
      obtain ⟨L, h3, _, _⟩ := (h.nd k hk).1
      rw [h3.refs]
      exact List.pairwise_map.2 h3.srt
    have hb : ∀ x, x ∈ refsN (C.nd k) → ((k : Int) + 1) * 1000 < x ∧ x < ((k : Int) + 1 + 1) * 1000 := fun x hx => by
      rw [hr] at hx
      obtain ⟨j, hj, rfl⟩ := List.mem_map.1 hx
      obtain ⟨h5, h6⟩ := h.mix k hk j hj
      have := (refG_lt hn h5).2
      rw [h6] at this
      omega
    show (catTo _ k ++ refsN (C.nd k)).Pairwise _ ∧ _
    refine ⟨List.pairwise_append.2 ⟨h1, hs, fun a ha b hb2 => ?_⟩, fun x hx => ?_⟩
    · have := h2 a ha
      have := (hb b hb2).1
      omega
    · rcases List.mem_append.1 hx with hx | hx
      · have := h2 x hx
        omega
      · have := (hb x hx).2
        omega
theorem TgS.mem (h : TgS C n m Q ix f) {k : Nat} (hk : k ≤ n) {x : Int} : x ∈ refsTo C k ↔ ∃ i j, i < k ∧ j ∈ ix i ∧ x = refG n j := by
  unfold refsTo
  rw [mem_catTo]
  refine ⟨fun ⟨i, hi, hx⟩ => ?_, fun ⟨i, j, hi, hj, e⟩ => ⟨i, hi, ?_⟩⟩
  · rw [h.refs (by omega)] at hx
    obtain ⟨j, hj, e⟩ := List.mem_map.1 hx
    exact ⟨i, j, hi, hj, e.symm⟩
  · rw [h.refs (by omega), e]
    exact List.mem_map.2 ⟨j, hj, rfl⟩
theorem TgS.one (h : TgS C n m Q ix f) (hn : okN3 n) : ∀ i j x, i < C.n → j < C.n → x ∈ refsN (C.nd i) → x ∈ refsN (C.nd j) → i = j := by
  intro i j x hi hj h1 h2
  rw [h.cn] at hi hj
  rw [h.refs hi] at h1
  rw [h.refs hj] at h2
  obtain ⟨a, ha, rfl⟩ := List.mem_map.1 h1
  obtain ⟨b, hb, e⟩ := List.mem_map.1 h2
  obtain ⟨h3, h4⟩ := h.mix i hi a ha
  obtain ⟨h5, h6⟩ := h.mix j hj b hb
  have := refG_inj hn h5 h3 e
  rw [← h4, ← h6, this]
theorem stKn_G {n m : Nat} {l : List Int} {x : Int} : stKn (stG n m l) x = true ↔ ∃ t, t ∈ tgt m l ∧ x = refG n t := by
  unfold stKn
  rw [anyOf_true]
  refine ⟨fun ⟨k, hk, hx⟩ => ?_, fun ⟨t, ht, e⟩ => ?_⟩
  · have hk2 : k < (tgt m l).length := by unfold stG at hk; simpa using hk
    have e : stN (stG n m l) k = (6, refG n (tgt m l)[k]) := by
      unfold stN stG
      rw [List.getD_eq_getElem?_getD, List.getElem?_map, List.getElem?_eq_getElem hk2]
      rfl
    rw [e] at hx
    refine ⟨(tgt m l)[k], List.getElem_mem hk2, ?_⟩
    unfold vLeaf at hx
    have h0 : ((6 : Int) == 6 && x == refG n (tgt m l)[k] || anyOf (fun i => refsV ((fun _ => VT.none) i) x) 0) = true := hx
    rw [anyOf_nil] at h0
    simpa using h0
  · obtain ⟨k, hk, rfl⟩ := List.mem_iff_getElem.1 ht
    refine ⟨k, by unfold stG; simpa using hk, ?_⟩
    have e2 : stN (stG n m l) k = (6, refG n (tgt m l)[k]) := by
      unfold stN stG
      rw [List.getD_eq_getElem?_getD, List.getElem?_map, List.getElem?_eq_getElem hk]
      rfl
    rw [e2]
    subst e
    unfold vLeaf
    show ((6 : Int) == 6 && _ || _) = true
    simp
/-- the records of the law's cluster -/
theorem TgS.spec {K : List KqS} (h : TgS C n m Q ix (fun _ => 0)) (hn : okN3 n) (hm : 1 ≤ m ∧ m ≤ 20) {In A0 : Nat → Bool} (hix : ∀ i, i < n → ∀ j, j ∈ ix i ↔ (j < m ∧ j % n = i ∧ In j = true)) (hA : ∀ j, j < m → In j = true → rtTo C C.n (refG n j) = A0 j)
    (hK : K.map (·.ref) = refsTo C C.n) (hof : ∀ k, k ∈ K → KqOf C k) : KqSpec K m (refG n) (fun i => tgt m (Q i)) A0 In := by
  have hmod : ∀ i : Nat, i % n < n := fun i => Nat.mod_lt _ (by rcases hn with rfl | rfl | rfl <;> omega)
  refine ⟨fun i j hi hj e => refG_inj hn (by omega) (by omega) e, fun i hi t ht => tgt_lt hm.1 ht, fun k hk => ?_, fun i hi hin => ?_⟩
  · obtain ⟨i, a, kn, hi, ha, hkn, rfl⟩ := hof k hk
    rw [h.cn] at hi
    obtain ⟨⟨L, hL, hrs, hfr⟩, hid⟩ := h.nd i hi
    rw [hL.acts] at ha
    obtain ⟨s, hs, rfl⟩ := List.mem_map.1 ha
    have hp : (s.ref, s.st) ∈ rsI n m Q (ix i) := by rw [← hrs]; exact List.mem_map.2 ⟨s, hs, rfl⟩
    obtain ⟨j, hj, e⟩ := List.mem_map.1 hp
    injection e with e1 e2
    obtain ⟨h1, h2, h3⟩ := (hix i hi j).1 hj
    obtain ⟨k1, k2, k3⟩ := hL.knows hkn
    have hw : s.w = true := frS_zero (by omega) s hs
    refine ⟨j, h1, h3, ?_, ?_, ?_, fun x => ?_⟩
    · show kn.ref = _
      rw [k1, e1]
    · show rtTo C C.n kn.ref = _
      rw [k1, ← e1]
      exact hA j h1 h3
    · show kn.awake = false
      rw [k2, hw]
      rfl
    · show x ∈ kn.refs ↔ _
      refine ⟨fun hx => ?_, fun hx => ?_⟩
      · have := (k3 x (hkn.wf x hx)).1 hx
        rw [← e2, stKn_G] at this
        rw [e1]
        exact ⟨this.1, this.2.2⟩
      · obtain ⟨⟨t, ht, rfl⟩, hne⟩ := hx
        have htm := tgt_lt hm.1 ht
        refine (k3 _ (refG_wf hn (by omega))).2 ⟨?_, ?_, ?_⟩
        · rw [← e2, stKn_G]
          exact ⟨t, ht, rfl⟩
        · have := refG_pos (n := n) (i := t)
          omega
        · rw [← e1]
          exact hne
  · have hx : refG n i ∈ K.map (·.ref) := by
      rw [hK, h.cn]
      exact (h.mem (Nat.le_refl _)).2 ⟨i % n, i, hmod i, (hix _ (hmod i) i).2 ⟨hi, rfl, hin⟩, rfl⟩
    obtain ⟨k, hk, e⟩ := List.mem_map.1 hx
    exact ⟨k, hk, e⟩
theorem TgS.kok {K : List KqS} (h : TgS C n m Q ix (fun _ => 0)) (hn : okN3 n) (hm : 1 ≤ m ∧ m ≤ 20) {In A0 : Nat → Bool} (hix : ∀ i, i < n → ∀ j, j ∈ ix i ↔ (j < m ∧ j % n = i ∧ In j = true)) (hA : ∀ j, j < m → In j = true → rtTo C C.n (refG n j) = A0 j)
    (hcl : ∀ i, i < m → In i = true → ∀ t, t ∈ tgt m (Q i) → In t = true) (hK : K.map (·.ref) = refsTo C C.n) (hof : ∀ k, k ∈ K → KqOf C k) : KqOk K := by
  have hmod : ∀ i : Nat, i % n < n := fun i => Nat.mod_lt _ (by rcases hn with rfl | rfl | rfl <;> omega)
  have hs := h.spec hn hm hix hA hK hof
  have hsr := (h.srt hn n (Nat.le_refl _)).1
  have hnd : (K.map (·.ref)).Nodup := by
    rw [hK, h.cn]
    exact hsr.imp (by intro a b hab; omega)
  have hlen : K.length ≤ 20 := by
    have h1 := nodup_leI hnd (m := (List.range m).map (refG n)) (fun x hx => by
      obtain ⟨k, hk, rfl⟩ := List.mem_map.1 hx
      obtain ⟨i, hi, _, e, _⟩ := hs.mem k hk
      exact List.mem_map.2 ⟨i, List.mem_range.2 hi, e.symm⟩)
    rw [List.length_map, List.length_map, List.length_range] at h1
    omega
  refine ⟨by omega, hnd, fun k hk => ?_, fun k hk x hx => ?_, fun k hk => ?_⟩
  · obtain ⟨i, hi, hin, e, _, _, hx⟩ := hs.mem k hk
    refine ⟨e ▸ refG_wf hn (by omega), fun x hxm => ?_⟩
    obtain ⟨⟨t, ht, rfl⟩, _⟩ := (hx x).1 hxm
    have := hs.tm i hi t ht
    exact refG_wf hn (by omega)
  · obtain ⟨i, hi, hin, e, _, _, hx2⟩ := hs.mem k hk
    obtain ⟨⟨t, ht, rfl⟩, _⟩ := (hx2 x).1 hx
    have htm := hs.tm i hi t ht
    obtain ⟨k2, hk2, e2⟩ := hs.all t htm (hcl i hi hin t ht)
    exact List.mem_map.2 ⟨k2, hk2, e2⟩
  · obtain ⟨i, hi, hin, e, _, _, hx⟩ := hs.mem k hk
    obtain ⟨i2, a, kn, _, _, hkn, rfl⟩ := hof k hk
    have hnd2 : kn.refs.Nodup := hkn.srt.imp (by intro a b hab; omega)
    have h1 := nodup_leI hnd2 (m := (tgt m (Q i)).map (refG n)) (fun x hxm => by
      obtain ⟨⟨t, ht, rfl⟩, _⟩ := (hx x).1 hxm
      exact List.mem_map.2 ⟨t, ht, rfl⟩)
    rw [List.length_map] at h1
    have := tgt_len m (Q i)
    show kn.refs.length ≤ _
    omega
/-- a sink more -/
theorem TgS.spawn {q : Nat} (hn : okN3 n) (hm : m ≤ 20) (hq : q < m) (h : TgS C n m Q (ixN n q) (fun _ => 20)) (hsp : ∀ i, i < n → (C.nd i).spawned = (ixN n q i).length) {C' : CqS} (h0 : C'.n = C.n) (he : C'.nd = updN C.nd (q % n) (spawnN (C.nd (q % n)) sinkS (stG n m (Q q))).1) :
    q % n < n ∧ (C.nd (q % n)).has ((C.nd (q % n)).id * 1000 + (C.nd (q % n)).spawned + 1) = false ∧ (C.nd (q % n)).acts.length < 60 ∧ (C.nd (q % n)).spawned < 999 ∧ (C.nd (q % n)).id * 1000 + (C.nd (q % n)).spawned + 1 = refG n q ∧
      TgS C' n m Q (ixN n (q + 1)) (fun _ => 20) ∧ ∀ i, i < n → (C'.nd i).spawned = (ixN n (q + 1) i).length := by
  have hmod : q % n < n := Nat.mod_lt _ (by rcases hn with rfl | rfl | rfl <;> omega)
  obtain ⟨⟨L, hL, hrs, hfr⟩, hid⟩ := h.nd (q % n) hmod
  have hsl := hsp (q % n) hmod
  rw [ixN_at hn] at hsl
  have hqn : q / n ≤ q := Nat.div_le_self _ _
  have href : (C.nd (q % n)).id * 1000 + (C.nd (q % n)).spawned + 1 = refG n q := by
    rw [hid, hsl]
    unfold refG
    omega
  have hbd : ∀ s, s ∈ L → s.ref < (C.nd (q % n)).id * 1000 + (C.nd (q % n)).spawned + 1 := fun s hs => by
    rw [href]
    have hp : (s.ref, s.st) ∈ rsI n m Q (ixN n q (q % n)) := by rw [← hrs]; exact List.mem_map.2 ⟨s, hs, rfl⟩
    obtain ⟨j, hj, e⟩ := List.mem_map.1 hp
    injection e with e1 e2
    obtain ⟨h1, h2⟩ := mem_ixN.1 hj
    rw [← e1]
    exact refG_mono hn (by omega) (by omega) h2 h1
  have hLl : L.length = (ixN n q (q % n)).length := by
    have := congrArg List.length hrs
    unfold rsI at this
    simpa using this
  have hLq : L.length ≤ q := by rw [hLl]; exact ixN_le
  obtain ⟨p1, p2, p3, p4, p5⟩ := hL.spawn (stG n m (Q q)) hbd (by omega) (by omega)
  refine ⟨hmod, p1, by rw [hL.acts, List.length_map]; omega, by omega, href, ⟨h0.trans h.cn, fun i hi => ?_, fun i hi j hj => ?_⟩, fun i hi => ?_⟩
  · rw [he]
    by_cases e : i = q % n
    · subst e
      rw [updN_self]
      refine ⟨⟨_, p2, ?_, ?_⟩, by rw [p3]; exact hid⟩
      · rw [List.map_append, hrs, ixN_succ, if_pos rfl]
        unfold rsI
        rw [List.map_append]
        congr 1
        show [((C.nd (q % n)).id * 1000 + (C.nd (q % n)).spawned + 1, stG n m (Q q))] = [(refG n q, stG n m (Q q))]
        rw [href]
      · have := frS_len (L ++ [⟨(C.nd (q % n)).id * 1000 + (C.nd (q % n)).spawned + 1, stG n m (Q q), false⟩])
        rw [List.length_append, List.length_singleton] at this
        omega
    · rw [updN_ne _ _ e, ixN_succ, if_neg (fun e2 => e e2.symm), List.append_nil]
      exact h.nd i hi
  · obtain ⟨h1, h2⟩ := mem_ixN.1 hj
    exact ⟨by omega, h2⟩
  · rw [he]
    by_cases e : i = q % n
    · subst e
      rw [updN_self, p4, ixN_succ, if_pos rfl, List.length_append, List.length_singleton, hsp _ hmod]
    · rw [updN_ne _ _ e, ixN_succ, if_neg (fun e2 => e e2.symm), List.append_nil]
      exact hsp i hi
/-- a turn of node i -/
theorem TgS.turn {i : Nat} (hi : i < n) (h : TgS C n m Q ix f) : (turnN (C.nd i)).1.out = [] ∧ (turnN (C.nd i)).1.id = (i : Int) + 1 ∧
    ((turnN (C.nd i)).2.2 = 4 ∧ (∀ C' : CqS, C'.n = C.n → C'.nd = updN C.nd i (turnN (C.nd i)).1 → TgS C' n m Q ix (updN f i 0)) ∨
     (turnN (C.nd i)).2.2 = 0 ∧ 1 ≤ f i ∧ (∀ C' : CqS, C'.n = C.n → C'.nd = updN C.nd i (turnN (C.nd i)).1 → TgS C' n m Q ix (updN f i (f i - 1)))) := by
  obtain ⟨⟨L, hL, hrs, hfr⟩, hid⟩ := h.nd i hi
  have key : ∀ (N' : NdS) (v : Nat), SkX N' (rsI n m Q (ix i)) v → N'.id = (i : Int) + 1 → ∀ C' : CqS, C'.n = C.n → C'.nd = updN C.nd i N' → TgS C' n m Q ix (updN f i v) := fun N' v hs hid' C' h0 he => by
    refine ⟨h0.trans h.cn, fun j hj => ?_, h.mix⟩
    rw [he]
    by_cases e : j = i
    · subst e
      rw [updN_self, updN_self]
      exact ⟨hs, hid'⟩
    · rw [updN_ne _ _ e, updN_ne _ _ e]
      exact h.nd j hj
  rcases hL.turn with ⟨e1, e2, hw⟩ | ⟨e1, s, hs, hw, h2, e3, e4⟩
  · rw [e2]
    exact ⟨hL.out, hid, .inl ⟨e1, key _ 0 ⟨L, hL, hrs, by rw [frS_of hw]; exact Nat.le_refl _⟩ hid⟩⟩
  · have hf := frS_wk hw hs
    refine ⟨h2.out, e3.trans hid, .inr ⟨e1, by omega, key _ _ ⟨_, h2, ?_, by omega⟩ (e3.trans hid)⟩⟩
    rw [wkS_rs]
    exact hrs
theorem SkN.drops (l : List Int) : ∀ {N : NdS} {L : List SkS}, SkN N L → SkN (dropsN N l) (L.filter fun s => !decide (s.ref ∈ l)) := by
  induction l with
  | nil =>
    intro N L h
    have : (L.filter fun s => !decide (s.ref ∈ ([] : List Int))) = L := List.filter_eq_self.2 (fun s _ => by simp)
    rw [this]
    exact h
  | cons r l ih =>
    intro N L h
    have h2 := ih (h.drop r).1
    rw [List.filter_filter] at h2
    have : (L.filter fun s => !decide (s.ref ∈ r :: l)) = L.filter fun s => !decide (s.ref ∈ l) && !(s.ref == r) := by
      refine List.filter_congr fun s _ => ?_
      by_cases e : s.ref = r
      · simp [e]
      · have e2 : (s.ref == r) = false := by simpa using e
        simp [e, e2]
    rw [this]
    exact h2
/-- the dead are taken away -/
theorem TgS.drops (hn : okN3 n) (hm : m ≤ 20) {In : Nat → Bool} (h : TgS C n m Q (ixN n m) (fun _ => 0)) {L : List Int} (hL : ∀ j, j < m → (refG n j ∈ L ↔ In j = false)) : TgS (dropsC C L) n m Q (fun i => (ixN n m i).filter In) (fun _ => 0) := by
  refine ⟨h.cn, fun i hi => ?_, fun i hi j hj => h.mix i hi j (List.mem_filter.1 hj).1⟩
  obtain ⟨⟨Ls, hs, hrs, hfr⟩, hid⟩ := h.nd i hi
  refine ⟨⟨_, hs.drops L, ?_, ?_⟩, by show (dropsN _ _).id = _; rw [drops_id]; exact hid⟩
  · have hmap : (Ls.filter fun s => !decide (s.ref ∈ L)).map (fun s => (s.ref, s.st)) = (Ls.map (fun s => (s.ref, s.st))).filter fun p => !decide (p.1 ∈ L) := by rw [List.filter_map]; rfl
    rw [hmap, hrs]
    unfold rsI
    rw [List.filter_map]
    congr 1
    refine List.filter_congr fun j hj => ?_
    have hjm := (mem_ixN.1 hj).1
    show (!decide (refG n j ∈ L)) = In j
    have := hL j hjm
    rcases hb : In j with _ | _
    · rw [decide_eq_true (this.2 hb)]; rfl
    · rw [decide_eq_false (fun hx => by rw [this.1 hx] at hb; cases hb)]; rfl
  · have h0 := frS_zero (show frS Ls = 0 by omega)
    rw [frS_of (fun s hs2 => h0 s (List.mem_filter.1 hs2).1)]
    exact Nat.le_refl _
end
end Go.Proofs.YthgbcgphkddmgaaGreat
namespace Go.Proofs.YthgbcgphkddmgaaGreat
open Go.RowKit Go.Maps
set_option linter.unusedVariables false
set_option linter.unusedSimpArgs false
theorem infoNP : (Tryz.prog.info? 91).map (fun i => (i.zero, i.size, i.bytes)) = some (some (.pointer none), 1, 8) := by kernel_rfl
theorem infoTP : (Tryz.prog.info? 94).map (fun i => (i.zero, i.size, i.bytes)) = some (some (.pointer none), 1, 8) := by kernel_rfl
def ptrs (f : Nat → Nat) (i : Nat) : List Value := (List.range i).map fun k => .pointer (some ⟨f k, 0, none⟩)
theorem ptrs_succ (f : Nat → Nat) (i : Nat) : ptrs f (i + 1) = ptrs f i ++ [.pointer (some ⟨f i, 0, none⟩)] := by simp [ptrs, List.range_succ]
theorem ptrs_congr {f g : Nat → Nat} {i : Nat} (h : ∀ k, k < i → f k = g k) : ptrs f i = ptrs g i := by
  unfold ptrs
  refine List.map_congr_left fun k hk => ?_
  rw [h k (List.mem_range.1 hk)]
theorem ptrs_at (f : Nat → Nat) {i k : Nat} (h : k < i) : (ptrs f i)[k]? = some (.pointer (some ⟨f k, 0, none⟩)) := by simp [ptrs, h]
/-- a row of pointers, one more or not yet -/
def RowQ (W : World) (p i : Nat) (e : TypeId) (v : Value) (xs : List Value) (x : Value) (size : Nat) : Option Value → Prop
  | none => W.ownsRow (p + 1) e 1 v i xs
  | some v' => (∃ g c, v' = .slice (some ⟨g, 0, none⟩) (i + 1) c) ∧ W.ownsRow (p + 1) e 1 v' (i + 1) (xs ++ [x]) ∧ ∀ g, v'.ownBlock = some g → v.ownBlock = some g ∨ size ≤ g
def curQ (v : Value) : Option Value → Value
  | none => v
  | some v' => v'
structure Q2 (w2 : World) (p i : Nat) (va vb : Value) (xa xb : List Value) (ya yb : Value) (oa ob : Option Value) (W : World) : Prop where
  fr : Fr (fun x => x = p ∨ va.ownBlock = some x ∨ vb.ownBlock = some x) w2 W
  cells : ∀ o u, w2.cell? ⟨p, o, none⟩ = some u → W.cell? ⟨p, o, none⟩ = some u
  froz : ∀ o, w2.frozen? ⟨p, o, none⟩ = false → W.frozen? ⟨p, o, none⟩ = false
  pl : p < w2.heap.size
  ra : RowQ W p i 91 va xa ya w2.heap.size oa
  rb : RowQ W p i 94 vb xb yb w2.heap.size ob
  ne : ∀ g, (curQ va oa).ownBlock = some g → (curQ vb ob).ownBlock ≠ some g
  lta : ∀ g, va.ownBlock = some g → p < g ∧ g < w2.heap.size
  ltb : ∀ g, vb.ownBlock = some g → p < g ∧ g < w2.heap.size
theorem RowQ.grown {W W' : World} {p i : Nat} {e : TypeId} {v : Value} {xs : List Value} {x : Value} {size : Nat} {o : Option Value} {row : Option Nat} (h : RowQ W p i e v xs x size o) (hg : W.grownBy W' row) (hn : ∀ g, (curQ v o).ownBlock = some g → row ≠ some g) : RowQ W' p i e v xs x size o := by
  cases o with
  | none => exact own_grown h hg hn
  | some v' => exact ⟨h.1, own_grown h.2.1 hg hn, h.2.2⟩
section
variable {w2 : World} {p i : Nat} {va vb : Value} {xa xb : List Value} {ya yb : Value} {oa ob : Option Value} {W : World}
theorem Q2.alloc (H : Q2 w2 p i va vb xa xb ya yb oa ob W) (o : Obj) : Q2 w2 p i va vb xa xb ya yb oa ob (W.alloc o) :=
  ⟨H.fr.alloc o, fun k u h => (World.cell?_alloc_lt W o ⟨p, k, none⟩ (World.block_lt_of_cell? W _ (H.cells k u h))).trans (H.cells k u h), fun k h => (grown_frozen (b := p) (o := k) (World.grownBy_alloc W o none) (Nat.lt_of_lt_of_le H.pl H.fr.size) (by simp)).trans (H.froz k h), H.pl,
    H.ra.grown (World.grownBy_alloc W o none) (fun g _ e => by cases e), H.rb.grown (World.grownBy_alloc W o none) (fun g _ e => by cases e), H.ne, H.lta, H.ltb⟩
theorem Q2.start (h : w2.ownsRow (p + 1) 91 1 va i xa) (h' : w2.ownsRow (p + 1) 94 1 vb i xb) (hp : p < w2.heap.size) (hne : ∀ g, va.ownBlock = some g → vb.ownBlock ≠ some g) : Q2 w2 p i va vb xa xb ya yb none none w2.drew :=
  ⟨(Fr.refl _ _).drew, fun _ _ h => h, fun _ h => h, hp, h, h', hne, fun g e => by have := h.lt g e; omega, fun g e => by have := h'.lt g e; omega⟩
/-- where a row lies -/
theorem RowQ.blk {e : TypeId} {v : Value} {xs : List Value} {x : Value} {size : Nat} {o : Option Value} (h : RowQ W p i e v xs x size o) (hv : ∀ g, v.ownBlock = some g → p < g) (hs : p < size) : ∀ g, (curQ v o).ownBlock = some g → p < g ∧ g < W.heap.size := by
  intro g hg
  cases o with
  | none => exact ⟨hv g hg, (World.ownsRow.lt h g hg).2⟩
  | some v' =>
    refine ⟨?_, (World.ownsRow.lt h.2.1 g hg).2⟩
    rcases h.2.2 g hg with h | h
    · exact hv g h
    · omega
/-- what an append does to all the rest -/
theorem Q2.app (H : Q2 w2 p i va vb xa xb ya yb oa ob W) {W' : World} {v : Value} (hg : W.grownBy W' v.ownBlock) (hv : v.ownBlock = va.ownBlock ∨ v.ownBlock = vb.ownBlock) :
    Fr (fun x => x = p ∨ va.ownBlock = some x ∨ vb.ownBlock = some x) w2 W' ∧ (∀ o u, w2.cell? ⟨p, o, none⟩ = some u → W'.cell? ⟨p, o, none⟩ = some u) ∧ (∀ o, w2.frozen? ⟨p, o, none⟩ = false → W'.frozen? ⟨p, o, none⟩ = false) ∧ ∀ x u, w2.heap.size ≤ x → W.cell? ⟨x, 0, none⟩ = some u → W'.cell? ⟨x, 0, none⟩ = some u := by
  have hb : ∀ g, v.ownBlock = some g → (va.ownBlock = some g ∨ vb.ownBlock = some g) ∧ p < g ∧ g < w2.heap.size := fun g e => by
    rcases hv with h | h
    · rw [h] at e; exact ⟨.inl e, H.lta g e⟩
    · rw [h] at e; exact ⟨.inr e, H.ltb g e⟩
  have hpl : p < W.heap.size := Nat.lt_of_lt_of_le H.pl H.fr.size
  have hpn : some p ≠ v.ownBlock := fun e => by have := (hb p e.symm).2.1; omega
  refine ⟨H.fr.trans' (Fr.of_grown hg fun g e => .inl (.inr (hb g e).1)), fun o u h => (grown_cell (b := p) (o := o) hg hpl hpn).trans (H.cells o u h), fun o h => (grown_frozen (b := p) (o := o) hg hpl hpn).trans (H.froz o h), fun x u hx h => (grown_cell (b := x) (o := 0) hg (World.block_lt_of_cell? W _ h) (fun e => by have := (hb x e.symm).2.2; omega)).trans h⟩
end
set_option maxRecDepth 100000 in
theorem step_qa {ops : Array Oper} {o : Oper} {a : Act} {K : Act → World → Prop} {Q : Exit → Act → World → Prop} {E : Prop} {w2 : World} {p i h : Nat} {va vb : Value} {xa xb : List Value} {x yb : Value} {ob : Option Value} {W : World} (hgd : o.guard = none) (s u : Operand)
    (ho : o.op = .call { callee := .builtin .append, args := #[s, u], argTypes := #[85, 85] }) (hs : a.eval s = va) (hu : a.eval u = .slice (some ⟨h, 0, none⟩) 1 1) (hc : W.cell? ⟨h, 0, none⟩ = some x) (h1 : x.oneCell' = true) (hi : i < 9) (H : Q2 w2 p i va vb xa xb x yb none ob W)
    (hk : ∀ g c W', Q2 w2 p i va vb xa xb x yb (some (.slice (some ⟨g, 0, none⟩) (i + 1) c)) ob W' → (∀ y u, w2.heap.size ≤ y → W.cell? ⟨y, 0, none⟩ = some u → W'.cell? ⟨y, 0, none⟩ = some u) → K (a.put o.dst (.slice (some ⟨g, 0, none⟩) (i + 1) c)) W') :
    if Region.wanted o (yielded ops a.tmps) = true then Oper.wp Tryz.prog o a W K Q else E := by
  obtain ⟨iN, hiN, zN1, zN2, zN3⟩ := info_parts infoNP
  have hsz := H.fr.size
  have hpl := H.pl
  refine step_append_lies _ hgd s u _ ho (p + 1) 91 iN _ 1 8 Tryz.underlying85 hiN zN1 zN2 zN3 rfl (by omega) va i xa hs H.ra ⟨h, 0, none⟩ 1 1 [x] hu rfl (fun j u hj => ?_) (fun u hu => by simp at hu; subst hu; exact h1) (by omega) (by unfold maxLen; omega) (by omega) (by omega) _ rfl (fun g c W' hown hgrow hat hlt => ?_)
  · match j, hj with
    | 0, hj => simp at hj; subst hj; simpa [Addr.add] using hc
  · obtain ⟨q1, q2, q3, q4⟩ := H.app hgrow (.inl rfl)
    refine hk g c W' ⟨q1, q2, q3, H.pl, ⟨⟨_, _, rfl⟩, hown, fun k e => ?_⟩, H.rb.grown hgrow (fun k e e2 => H.ne k e2 e), fun k e e2 => ?_, H.lta, H.ltb⟩ q4
    · obtain rfl : g = k := by injection e
      rcases hat with h | h
      · exact .inl h
      · exact .inr (by rw [h]; exact hsz)
    · obtain rfl : g = k := by injection e
      rcases hat with h | h
      · exact H.ne _ h e2
      · have := (H.rb.blk (fun g e => (H.ltb g e).1) H.pl _ e2).2
        omega
set_option maxRecDepth 100000 in
theorem step_qb {ops : Array Oper} {o : Oper} {a : Act} {K : Act → World → Prop} {Q : Exit → Act → World → Prop} {E : Prop} {w2 : World} {p i h : Nat} {va vb : Value} {xa xb : List Value} {x ya : Value} {oa : Option Value} {W : World} (hgd : o.guard = none) (s u : Operand)
    (ho : o.op = .call { callee := .builtin .append, args := #[s, u], argTypes := #[86, 86] }) (hs : a.eval s = vb) (hu : a.eval u = .slice (some ⟨h, 0, none⟩) 1 1) (hc : W.cell? ⟨h, 0, none⟩ = some x) (h1 : x.oneCell' = true) (hi : i < 9) (H : Q2 w2 p i va vb xa xb ya x oa none W)
    (hk : ∀ g c W', Q2 w2 p i va vb xa xb ya x oa (some (.slice (some ⟨g, 0, none⟩) (i + 1) c)) W' → (∀ y u, w2.heap.size ≤ y → W.cell? ⟨y, 0, none⟩ = some u → W'.cell? ⟨y, 0, none⟩ = some u) → K (a.put o.dst (.slice (some ⟨g, 0, none⟩) (i + 1) c)) W') :
    if Region.wanted o (yielded ops a.tmps) = true then Oper.wp Tryz.prog o a W K Q else E := by
  obtain ⟨iN, hiN, zN1, zN2, zN3⟩ := info_parts infoTP
  have hsz := H.fr.size
  have hpl := H.pl
  refine step_append_lies _ hgd s u _ ho (p + 1) 94 iN _ 1 8 Tryz.underlying86 hiN zN1 zN2 zN3 rfl (by omega) vb i xb hs H.rb ⟨h, 0, none⟩ 1 1 [x] hu rfl (fun j u hj => ?_) (fun u hu => by simp at hu; subst hu; exact h1) (by omega) (by unfold maxLen; omega) (by omega) (by omega) _ rfl (fun g c W' hown hgrow hat hlt => ?_)
  · match j, hj with
    | 0, hj => simp at hj; subst hj; simpa [Addr.add] using hc
  · obtain ⟨q1, q2, q3, q4⟩ := H.app hgrow (.inr rfl)
    refine hk g c W' ⟨q1, q2, q3, H.pl, H.ra.grown hgrow (fun k e e2 => H.ne k e e2), ⟨⟨_, _, rfl⟩, hown, fun k e => ?_⟩, fun k e e2 => ?_, H.lta, H.ltb⟩ q4
    · obtain rfl : g = k := by injection e
      rcases hat with h | h
      · exact .inl h
      · exact .inr (by rw [h]; exact hsz)
    · obtain rfl : g = k := by injection e2
      rcases hat with h | h
      · exact H.ne _ e h
      · have := (H.ra.blk (fun g e => (H.lta g e).1) H.pl _ e).2
        omega
end Go.Proofs.YthgbcgphkddmgaaGreat
namespace Go.Proofs.YthgbcgphkddmgaaGreat
open Go.RowKit Go.Maps
set_option linter.unusedVariables false
set_option linter.unusedSimpArgs false
/-- what lies in the blocks of a cluster under way, but for its own cells and its lines -/
structure NwK (w : World) (s : Nat) (ok : CBk → Prop) (bl : CBk → Nat) (i fuel : Nat) (pn lo hi : Nat → Nat) (Pn : Nat → Int → Nat) : Prop where
  nd : ∀ j, j < i → NodeAt w (fun k => s ≤ k ∧ k < w.heap.size) (fun k => lo j ≤ k ∧ k < hi j) s 0 (pn j) (Pn j) (newN ((j : Int) + 1) fuel)
  nms : ∀ j, j < i → Nm.NmAt w (bl (.Tb j)) ((j : Int) + 1) 0 (bl (.Mb j)) (fun _ => none)
  mw : OwnW w (bl .Mw) 0 (fun _ _ => none)
  mt : OwnW w (bl .Mt) 0 (fun _ _ => none)
  mo : OwnM w (bl .Mo) 0 (fun _ => none)
  mh : OwnM w (bl .Mh) 0 (fun _ => none)
  ed : ∀ j k, ok (.Ed j k) → EndQ w (bl (.Ed j k))
/-- how its blocks lie apart -/
structure NwA (w : World) (s : Nat) (ok : CBk → Prop) (bl : CBk → Nat) (i : Nat) (va vb : Value) (lo hi : Nat → Nat) : Prop where
  sz : s ≤ w.heap.size
  pr : ok .P ∧ ok .Me ∧ ok .Mw ∧ ok .Mt ∧ ok .Mo ∧ ok .Mh
  okT : ∀ j, j < i → ok (.Tb j) ∧ ok (.Mb j)
  inj : ∀ a b, ok a → ok b → bl a = bl b → a = b
  lt : ∀ a, ok a → s ≤ bl a ∧ bl a < w.heap.size
  iv : ∀ j, j < i → s ≤ lo j ∧ hi j ≤ w.heap.size
  off : ∀ j a, j < i → ok a → ¬ (lo j ≤ bl a ∧ bl a < hi j)
  dis : ∀ j l, j < i → l < i → j ≠ l → hi j ≤ lo l ∨ hi l ≤ lo j
  fa : ∀ g, va.ownBlock = some g → (∀ a, ok a → bl a ≠ g) ∧ (∀ j, j < i → ¬ (lo j ≤ g ∧ g < hi j)) ∧ s ≤ g ∧ g < w.heap.size
  fb : ∀ g, vb.ownBlock = some g → (∀ a, ok a → bl a ≠ g) ∧ (∀ j, j < i → ¬ (lo j ≤ g ∧ g < hi j)) ∧ s ≤ g ∧ g < w.heap.size
  fab : ∀ g, va.ownBlock = some g → vb.ownBlock ≠ some g
/-- its own cells -/
structure NwP (w : World) (bl : CBk → Nat) (va vb : Value) : Prop where
  c0 : w.cell? ⟨bl .P, 0, none⟩ = some va
  c1 : w.cell? ⟨bl .P, 1, none⟩ = some vb
  c2 : w.cell? ⟨bl .P, 2, none⟩ = some (.map (some (bl .Me)))
  c3 : w.cell? ⟨bl .P, 3, none⟩ = some (.map (some (bl .Mw)))
  c4 : w.cell? ⟨bl .P, 4, none⟩ = some (.map (some (bl .Mt)))
  c5 : w.cell? ⟨bl .P, 5, none⟩ = some (.slice none 0 0)
  c6 : w.cell? ⟨bl .P, 6, none⟩ = some (.map (some (bl .Mo)))
  c7 : w.cell? ⟨bl .P, 7, none⟩ = some (.map (some (bl .Mh)))
  c8 : w.cell? ⟨bl .P, 8, none⟩ = some (.slice none 0 0)
  fz : ∀ o, w.frozen? ⟨bl .P, o, none⟩ = false
theorem NwP.fr {D : Nat → Prop} {w w' : World} {bl : CBk → Nat} {va vb : Value} (h : NwP w bl va vb) (hf : Fr D w w') (hn : ¬ D (bl .P)) : NwP w' bl va vb :=
  ⟨hf.cell h.c0 hn, hf.cell h.c1 hn, hf.cell h.c2 hn, hf.cell h.c3 hn, hf.cell h.c4 hn, hf.cell h.c5 hn, hf.cell h.c6 hn, hf.cell h.c7 hn, hf.cell h.c8 hn, fun o => (hf.frozen (World.block_lt_of_cell? w _ h.c0) hn).trans (h.fz o)⟩
/-- a cluster under way: i nodes; ok: which of its blocks there are -/
structure NwG (w : World) (s : Nat) (ok : CBk → Prop) (bl : CBk → Nat) (i fuel : Nat) (va vb : Value) (pn lo hi : Nat → Nat) (Pn : Nat → Int → Nat) (nm : Nat) (g : Nat → Nat → Option Value) : Prop where
  a : NwA w s ok bl i va vb lo hi
  k : NwK w s ok bl i fuel pn lo hi Pn
  p : NwP w bl va vb
  ra : w.ownsRow (bl .P + 1) 91 1 va i (ptrs pn i)
  rb : w.ownsRow (bl .P + 1) 94 1 vb i (ptrs (fun j => bl (.Tb j)) i)
  me : OwnW w (bl .Me) nm g
  gv : ∀ x y, x < 9 → y < 9 → (ok (.Ed x y) → g (x + 1) (y + 1) = some (.pointer (some ⟨bl (.Ed x y), 0, none⟩))) ∧ (¬ ok (.Ed x y) → g (x + 1) (y + 1) = none) ∧ g x 0 = none ∧ g 0 y = none
section
variable {w w' : World} {s : Nat} {ok ok' : CBk → Prop} {bl : CBk → Nat} {i fuel : Nat} {va vb va' vb' : Value} {pn lo hi : Nat → Nat} {Pn : Nat → Int → Nat} {nm : Nat} {g : Nat → Nat → Option Value} {D : Nat → Prop}
theorem NwK.fr (h : NwK w s ok bl i fuel pn lo hi Pn) (ha : NwA w s ok bl i va vb lo hi) (hf : Fr D w w') (hD : ∀ k, D k → k = bl .P ∨ k = bl .Me ∨ va.ownBlock = some k ∨ vb.ownBlock = some k) : NwK w' s ok bl i fuel pn lo hi Pn := by
  have hsz := hf.size
  have hno : ∀ a, ok a → a ≠ .P → a ≠ .Me → ¬ D (bl a) := fun a hok h1 h2 hd => by
    rcases hD _ hd with e | e | e | e
    · exact h1 (ha.inj _ _ hok ha.pr.1 e)
    · exact h2 (ha.inj _ _ hok ha.pr.2.1 e)
    · exact (ha.fa _ e).1 a hok rfl
    · exact (ha.fb _ e).1 a hok rfl
  have hin : ∀ k, D k → s ≤ k ∧ k < w.heap.size := fun k hd => by
    rcases hD _ hd with e | e | e | e
    · subst e; exact ha.lt _ ha.pr.1
    · subst e; exact ha.lt _ ha.pr.2.1
    · exact (ha.fa _ e).2.2
    · exact (ha.fb _ e).2.2
  have hoff : ∀ j, j < i → ∀ k, lo j ≤ k ∧ k < hi j → ¬ D k := fun j hj k hk hd => by
    rcases hD _ hd with e | e | e | e
    · subst e; exact ha.off j _ hj ha.pr.1 hk
    · subst e; exact ha.off j _ hj ha.pr.2.1 hk
    · exact (ha.fa _ e).2.1 j hj hk
    · exact (ha.fb _ e).2.1 j hj hk
  refine ⟨fun j hj => ?_, fun j hj => (h.nms j hj).fr hf (hno _ (ha.okT j hj).1 (by intro e; cases e) (by intro e; cases e)) (hno _ (ha.okT j hj).2 (by intro e; cases e) (by intro e; cases e)), h.mw.fr hf (hno _ ha.pr.2.2.1 (by intro e; cases e) (by intro e; cases e)), h.mt.fr hf (hno _ ha.pr.2.2.2.1 (by intro e; cases e) (by intro e; cases e)), h.mo.fr hf (hno _ ha.pr.2.2.2.2.1 (by intro e; cases e) (by intro e; cases e)), h.mh.fr hf (hno _ ha.pr.2.2.2.2.2 (by intro e; cases e) (by intro e; cases e)), fun j k hk => (h.ed j k hk).fr hf (hno _ hk (by intro e; cases e) (by intro e; cases e))⟩
  exact (h.nd j hj).fr hf (fun k hk => ⟨hin k hk, (hin k hk).1⟩) (fun k hk => ⟨hk.1, by omega⟩) (fun k hk => by by_cases e : k < w.heap.size; exact .inl ⟨hk.1, e⟩; exact .inr ⟨by omega, hk.2⟩) (hoff j hj)
theorem NwA.up (h : NwA w s ok bl i va vb lo hi) (hs : w.heap.size ≤ w'.heap.size) : NwA w' s ok bl i va vb lo hi :=
  ⟨by have := h.sz; omega, h.pr, h.okT, h.inj, fun a ha => by have := h.lt a ha; omega, fun j hj => by have := h.iv j hj; omega, h.off, h.dis, fun g hg => by have := h.fa g hg; exact ⟨this.1, this.2.1, by omega⟩, fun g hg => by have := h.fb g hg; exact ⟨this.1, this.2.1, by omega⟩, h.fab⟩
/-- others write nothing of it -/
theorem NwG.new (h : NwG w s ok bl i fuel va vb pn lo hi Pn nm g) (hf : Fr (fun _ => False) w w') : NwG w' s ok bl i fuel va vb pn lo hi Pn nm g :=
  ⟨h.a.up hf.size, h.k.fr h.a hf (fun _ h => h.elim), h.p.fr hf (fun h => h), hf.row h.ra (fun _ _ h => h), hf.row h.rb (fun _ _ h => h), h.me.fr hf (fun h => h), h.gv⟩
theorem NwG.congr (h : NwG w s ok bl i fuel va vb pn lo hi Pn nm g) (he : ∀ a, ok' a ↔ ok a) : NwG w s ok' bl i fuel va vb pn lo hi Pn nm g := by
  have : ok' = ok := funext fun a => propext (he a)
  rw [this]
  exact h
theorem inj_ext {nw : CBk → Prop} {bl' : CBk → Nat} {B : Nat} (h : ∀ a b, ok a → ok b → bl a = bl b → a = b) (h1 : ∀ a, ok a → bl' a = bl a ∧ bl a < B) (h2 : ∀ a, nw a → B ≤ bl' a) (h3 : ∀ a b, nw a → nw b → bl' a = bl' b → a = b) : ∀ a b, ok a ∨ nw a → ok b ∨ nw b → bl' a = bl' b → a = b := by
  intro a b ha hb e
  rcases ha with ha | ha <;> rcases hb with hb | hb
  · rw [(h1 a ha).1, (h1 b hb).1] at e; exact h a b ha hb e
  · have := h1 a ha; have := h2 b hb; omega
  · have := h1 b hb; have := h2 a ha; omega
  · exact h3 a b ha hb e
def blT (bl : CBk → Nat) (i t m : Nat) : CBk → Nat
  | .Tb j => if j = i then t else bl (.Tb j)
  | .Mb j => if j = i then m else bl (.Mb j)
  | a => bl a
def blE (bl : CBk → Nat) (i k q : Nat) : CBk → Nat
  | .Ed j l => if j = i ∧ l = k then q else bl (.Ed j l)
  | a => bl a
theorem blT_old {a : CBk} {t m : Nat} (h1 : a ≠ .Tb i) (h2 : a ≠ .Mb i) : blT bl i t m a = bl a := by
  cases a <;> try rfl
  · rename_i j
    show (if j = i then t else bl (.Tb j)) = _
    rw [if_neg (fun e => h1 (by rw [e]))]
  · rename_i j
    show (if j = i then m else bl (.Mb j)) = _
    rw [if_neg (fun e => h2 (by rw [e]))]
theorem blE_old {a : CBk} {k q : Nat} (h1 : a ≠ .Ed i k) : blE bl i k q a = bl a := by
  cases a <;> try rfl
  rename_i j l
  show (if j = i ∧ l = k then q else bl (.Ed j l)) = _
  rw [if_neg (fun e => h1 (by rw [e.1, e.2]))]
/-- one more line -/
theorem NwG.line {wa wb : World} {j k q nm' : Nat} {g' : Nat → Nat → Option Value} (h : NwG w s ok bl i fuel va vb pn lo hi Pn nm g) (hf : Fr (fun _ => False) w wa) (hq : EndQ wa q) (hql : w.heap.size ≤ q) (hno : ¬ ok (.Ed j k)) (hk : k < 8 ∧ j < 8)
    (hg : wa.grownBy wb (some (bl .Me))) (ho : OwnW wb (bl .Me) nm' (fun x y => if x = j + 1 ∧ y = k + 1 then some (.pointer (some ⟨q, 0, none⟩)) else g x y)) :
    NwG wb s (fun a => ok a ∨ a = .Ed j k) (blE bl j k q) i fuel va vb pn lo hi Pn nm' (fun x y => if x = j + 1 ∧ y = k + 1 then some (.pointer (some ⟨q, 0, none⟩)) else g x y) := by
  have ha := h.new hf
  have hfb : Fr (fun x => x = bl .Me) wa wb := Fr.of_grown hg (fun b hb => .inl (by injection hb with hb; exact hb.symm))
  have hK := ha.k.fr ha.a hfb (fun k hk => .inr (.inl hk))
  have hbo : ∀ a, ok a → blE bl j k q a = bl a := fun a hok => blE_old (fun e => hno (e ▸ hok))
  have hqa := hq.lt
  have hsb := hfb.size
  have hqm : q ≠ bl .Me := by have := h.a.lt _ h.a.pr.2.1; omega
  have hbe : blE bl j k q (.Ed j k) = q := if_pos ⟨rfl, rfl⟩
  have hpme : bl .P ≠ bl .Me := fun e => by cases h.a.inj _ _ h.a.pr.1 h.a.pr.2.1 e
  refine ⟨⟨?_, ⟨.inl h.a.pr.1, .inl h.a.pr.2.1, .inl h.a.pr.2.2.1, .inl h.a.pr.2.2.2.1, .inl h.a.pr.2.2.2.2.1, .inl h.a.pr.2.2.2.2.2⟩, fun l hl => ⟨.inl (h.a.okT l hl).1, .inl (h.a.okT l hl).2⟩, ?_, fun a hok => ?_, fun l hl => ?_, fun l a hl hok => ?_, h.a.dis, fun b hb => ?_, fun b hb => ?_, h.a.fab⟩, ⟨hK.nd, hK.nms, hK.mw, hK.mt, hK.mo, hK.mh, fun l m hok => ?_⟩, ?_, hfb.row ha.ra (fun b hb e => ?_), ?_, ho, fun x y hx hy => ?_⟩
  · have := ha.a.sz; omega
  · exact inj_ext (B := w.heap.size) h.a.inj (fun a hok => ⟨hbo a hok, (h.a.lt a hok).2⟩) (fun a e => by subst e; rw [hbe]; exact hql) (fun a b e1 e2 _ => e1.trans e2.symm)
  · rcases hok with hok | rfl
    · rw [hbo a hok]; have := ha.a.lt a hok; omega
    · rw [hbe]; have := h.a.sz; omega
  · have := ha.a.iv l hl; omega
  · rcases hok with hok | rfl
    · rw [hbo a hok]; exact h.a.off l a hl hok
    · rw [hbe]; have := h.a.iv l hl; omega
  · have h1 := h.a.fa b hb
    refine ⟨fun a hok => ?_, h1.2.1, by have := hf.size; omega⟩
    rcases hok with hok | rfl
    · rw [hbo a hok]; exact h1.1 a hok
    · rw [hbe]; omega
  · have h1 := h.a.fb b hb
    refine ⟨fun a hok => ?_, h1.2.1, by have := hf.size; omega⟩
    rcases hok with hok | rfl
    · rw [hbo a hok]; exact h1.1 a hok
    · rw [hbe]; omega
  · rcases hok with hok | e
    · rw [hbo _ hok]; exact hK.ed l m hok
    · rw [e, hbe]; exact hq.fr hfb hqm
  · have hp := ha.p.fr hfb hpme
    exact ⟨hp.c0, hp.c1, hp.c2, hp.c3, hp.c4, hp.c5, hp.c6, hp.c7, hp.c8, hp.fz⟩
  · exact (h.a.fa b hb).1 _ h.a.pr.2.1 e.symm
  · have : (fun l => blE bl j k q (.Tb l)) = fun l => bl (.Tb l) := rfl
    rw [this]
    exact hfb.row ha.rb (fun b hb e => (h.a.fb b hb).1 _ h.a.pr.2.1 e.symm)
  · have hxy := h.gv x y hx hy
    refine ⟨fun hok => ?_, fun hnk => ?_, ?_, ?_⟩
    · by_cases e : x = j ∧ y = k
      · obtain ⟨rfl, rfl⟩ := e
        show (if _ then _ else _) = _
        rw [if_pos ⟨rfl, rfl⟩, hbe]
      · show (if _ then _ else _) = _
        rw [if_neg (by omega)]
        rcases hok with hok | e2
        · rw [hbo _ hok]; exact hxy.1 hok
        · injection e2 with e3 e4; exact absurd ⟨e3, e4⟩ e
    · show (if _ then _ else _) = _
      by_cases e : x = j ∧ y = k
      · obtain ⟨rfl, rfl⟩ := e
        exact absurd (.inr rfl) hnk
      · rw [if_neg (by omega)]
        exact hxy.2.1 (fun hok => hnk (.inl hok))
    · show (if _ then _ else _) = _
      rw [if_neg (by omega)]; exact hxy.2.2.1
    · show (if _ then _ else _) = _
      rw [if_neg (by omega)]; exact hxy.2.2.2
/-- one more node -/
theorem NwG.more {w1 w2 : World} {p t m : Nat} {P : Int → Nat} (h : NwG w s ok bl i fuel va vb pn lo hi Pn nm g) (hnT : ¬ ok (.Tb i) ∧ ¬ ok (.Mb i)) (hf1 : Fr (fun _ => False) w w1) (hf2 : Fr (fun _ => False) w1 w2)
    (hN : NodeAt w1 (fun k => s ≤ k ∧ k < w1.heap.size) (fun k => w.heap.size ≤ k ∧ k < w1.heap.size) s 0 p P (newN ((i : Int) + 1) fuel)) (hM : Nm.NmAt w2 t ((i : Int) + 1) 0 m (fun _ => none)) (htm : w1.heap.size ≤ t ∧ w1.heap.size ≤ m ∧ t ≠ m ∧ t < w2.heap.size ∧ m < w2.heap.size)
    (hf : Fr (fun x => x = bl .P ∨ va.ownBlock = some x ∨ vb.ownBlock = some x) w2 w') (hP : NwP w' bl va' vb')
    (ra : w'.ownsRow (bl .P + 1) 91 1 va' (i + 1) (ptrs pn i ++ [.pointer (some ⟨p, 0, none⟩)])) (rb : w'.ownsRow (bl .P + 1) 94 1 vb' (i + 1) (ptrs (fun j => bl (.Tb j)) i ++ [.pointer (some ⟨t, 0, none⟩)]))
    (oa : ∀ g, va'.ownBlock = some g → va.ownBlock = some g ∨ w2.heap.size ≤ g) (ob : ∀ g, vb'.ownBlock = some g → vb.ownBlock = some g ∨ w2.heap.size ≤ g) (oab : ∀ g, va'.ownBlock = some g → vb'.ownBlock ≠ some g) :
    NwG w' s (fun a => ok a ∨ (a = .Tb i ∨ a = .Mb i)) (blT bl i t m) (i + 1) fuel va' vb' (updN pn i p) (updN lo i w.heap.size) (updN hi i w1.heap.size) (updN Pn i P) nm g := by
  have h2 := (h.new hf1).new hf2
  have hK := h2.k.fr h2.a hf (fun k hk => by
    rcases hk with e | e | e
    · exact .inl e
    · exact .inr (.inr (.inl e))
    · exact .inr (.inr (.inr e)))
  have s1 := hf1.size
  have s2 := hf2.size
  have s3 := hf.size
  have hbo : ∀ a, ok a → blT bl i t m a = bl a := fun a hok => blT_old (fun e => hnT.1 (e ▸ hok)) (fun e => hnT.2 (e ▸ hok))
  have hbt : blT bl i t m (.Tb i) = t := if_pos rfl
  have hbm : blT bl i t m (.Mb i) = m := if_pos rfl
  have hDn : ∀ x, w.heap.size ≤ x → ¬ (x = bl .P ∨ va.ownBlock = some x ∨ vb.ownBlock = some x) := by
    rintro x hx (e | e | e)
    · have := h.a.lt _ h.a.pr.1; omega
    · have := (h.a.fa _ e).2.2; omega
    · have := (h.a.fb _ e).2.2; omega
  have hDin : ∀ x, (x = bl .P ∨ va.ownBlock = some x ∨ vb.ownBlock = some x) → s ≤ x ∧ x < w.heap.size := by
    rintro x (e | e | e)
    · subst e; exact h.a.lt _ h.a.pr.1
    · exact (h.a.fa _ e).2.2
    · exact (h.a.fb _ e).2.2
  have hsz := h.a.sz
  have hlast : ∀ g, va'.ownBlock = some g → s ≤ g ∧ g < w'.heap.size := fun g hg => by
    have h1 := (ra.lt g hg).2
    rcases oa g hg with e | e
    · have := (h.a.fa _ e).2.2; omega
    · omega
  have hlbst : ∀ g, vb'.ownBlock = some g → s ≤ g ∧ g < w'.heap.size := fun g hg => by
    have h1 := (rb.lt g hg).2
    rcases ob g hg with e | e
    · have := (h.a.fb _ e).2.2; omega
    · omega
  have hlohi : ∀ j, j < i + 1 → (j < i ∧ updN lo i w.heap.size j = lo j ∧ updN hi i w1.heap.size j = hi j) ∨ (j = i ∧ updN lo i w.heap.size j = w.heap.size ∧ updN hi i w1.heap.size j = w1.heap.size) := fun j hj => by
    by_cases e : j = i
    · subst e; exact .inr ⟨rfl, updN_self _ _ _, updN_self _ _ _⟩
    · exact .inl ⟨by omega, updN_ne _ _ e, updN_ne _ _ e⟩
  refine ⟨⟨by omega, ⟨.inl h.a.pr.1, .inl h.a.pr.2.1, .inl h.a.pr.2.2.1, .inl h.a.pr.2.2.2.1, .inl h.a.pr.2.2.2.2.1, .inl h.a.pr.2.2.2.2.2⟩, fun j hj => ?_, ?_, fun a hok => ?_, fun j hj => ?_, fun j a hj hok => ?_, fun j l hj hl hne => ?_, fun b hb => ?_, fun b hb => ?_, oab⟩, ⟨fun j hj => ?_, fun j hj => ?_, hK.mw, hK.mt, hK.mo, hK.mh, fun j k hok => ?_⟩, ?_, ?_, ?_, ?_, fun x y hx hy => ?_⟩
  · by_cases e : j = i
    · subst e; exact ⟨.inr (.inl rfl), .inr (.inr rfl)⟩
    · have := h.a.okT j (by omega); exact ⟨.inl this.1, .inl this.2⟩
  · refine inj_ext (B := w.heap.size) h.a.inj (fun a hok => ⟨hbo a hok, (h.a.lt a hok).2⟩) (fun a e => ?_) (fun a b e1 e2 e3 => ?_)
    · rcases e with rfl | rfl
      · rw [hbt]; omega
      · rw [hbm]; omega
    · rcases e1 with rfl | rfl <;> rcases e2 with rfl | rfl
      · rfl
      · rw [hbt, hbm] at e3; exact absurd e3 htm.2.2.1
      · rw [hbt, hbm] at e3; exact absurd e3.symm htm.2.2.1
      · rfl
  · rcases hok with hok | rfl | rfl
    · rw [hbo a hok]; have := h.a.lt a hok; omega
    · rw [hbt]; omega
    · rw [hbm]; omega
  · rcases hlohi j hj with ⟨h1, e1, e2⟩ | ⟨h1, e1, e2⟩
    · rw [e1, e2]; have := h.a.iv j h1; omega
    · rw [e1, e2]; omega
  · rcases hlohi j hj with ⟨h1, e1, e2⟩ | ⟨h1, e1, e2⟩
    · rw [e1, e2]
      have hiv := h.a.iv j h1
      rcases hok with hok | rfl | rfl
      · rw [hbo a hok]; exact h.a.off j a h1 hok
      · rw [hbt]; omega
      · rw [hbm]; omega
    · rw [e1, e2]
      rcases hok with hok | rfl | rfl
      · rw [hbo a hok]; have := h.a.lt a hok; omega
      · rw [hbt]; omega
      · rw [hbm]; omega
  · rcases hlohi j hj with ⟨h1, e1, e2⟩ | ⟨h1, e1, e2⟩ <;> rcases hlohi l hl with ⟨h3, e3, e4⟩ | ⟨h3, e3, e4⟩
    · rw [e1, e2, e3, e4]; exact h.a.dis j l h1 h3 hne
    · rw [e1, e2, e3, e4]; have := h.a.iv j h1; omega
    · rw [e1, e2, e3, e4]; have := h.a.iv l h3; omega
    · omega
  · refine ⟨fun a hok => ?_, fun j hj => ?_, hlast b hb⟩
    · rcases oa b hb with e | e
      · have h1 := h.a.fa _ e
        rcases hok with hok | rfl | rfl
        · rw [hbo a hok]; exact h1.1 a hok
        · rw [hbt]; omega
        · rw [hbm]; omega
      · rcases hok with hok | rfl | rfl
        · rw [hbo a hok]; have := h.a.lt a hok; omega
        · rw [hbt]; omega
        · rw [hbm]; omega
    · rcases hlohi j hj with ⟨h1, e1, e2⟩ | ⟨h1, e1, e2⟩
      · rw [e1, e2]
        rcases oa b hb with e | e
        · exact (h.a.fa _ e).2.1 j h1
        · have := h.a.iv j h1; omega
      · rw [e1, e2]
        rcases oa b hb with e | e
        · have := (h.a.fa _ e).2.2; omega
        · omega
  · refine ⟨fun a hok => ?_, fun j hj => ?_, hlbst b hb⟩
    · rcases ob b hb with e | e
      · have h1 := h.a.fb _ e
        rcases hok with hok | rfl | rfl
        · rw [hbo a hok]; exact h1.1 a hok
        · rw [hbt]; omega
        · rw [hbm]; omega
      · rcases hok with hok | rfl | rfl
        · rw [hbo a hok]; have := h.a.lt a hok; omega
        · rw [hbt]; omega
        · rw [hbm]; omega
    · rcases hlohi j hj with ⟨h1, e1, e2⟩ | ⟨h1, e1, e2⟩
      · rw [e1, e2]
        rcases ob b hb with e | e
        · exact (h.a.fb _ e).2.1 j h1
        · have := h.a.iv j h1; omega
      · rw [e1, e2]
        rcases ob b hb with e | e
        · have := (h.a.fb _ e).2.2; omega
        · omega
  · by_cases e : j = i
    · subst e
      rw [updN_self, updN_self, updN_self, updN_self]
      exact ((hN.fr hf2 (X' := fun k => s ≤ k ∧ k < w2.heap.size) (fun _ h => h.elim) (fun k hk => ⟨hk.1, by omega⟩) (fun k hk => by by_cases e : k < w1.heap.size; exact .inl ⟨hk.1, e⟩; exact .inr ⟨by omega, hk.2⟩) (fun _ _ h => h))).fr hf (fun k hk => ⟨⟨(hDin k hk).1, by have := (hDin k hk).2; omega⟩, (hDin k hk).1⟩) (fun k hk => ⟨hk.1, by omega⟩) (fun k hk => by by_cases e : k < w2.heap.size; exact .inl ⟨hk.1, e⟩; exact .inr ⟨by omega, hk.2⟩) (fun k hk => hDn k hk.1)
    · rw [updN_ne _ _ e, updN_ne _ _ e, updN_ne _ _ e, updN_ne _ _ e]
      exact hK.nd j (by omega)
  · by_cases e : j = i
    · subst e
      rw [hbt, hbm]
      exact hM.fr hf (hDn t (by omega)) (hDn m (by omega))
    · rw [blT_old (fun e2 => e (by injection e2)) (fun e2 => by cases e2), blT_old (fun e2 => by cases e2) (fun e2 => e (by injection e2))]
      exact hK.nms j (by omega)
  · rcases hok with hok | e | e
    · exact hK.ed j k hok
    · cases e
    · cases e
  · exact ⟨hP.c0, hP.c1, hP.c2, hP.c3, hP.c4, hP.c5, hP.c6, hP.c7, hP.c8, hP.fz⟩
  · rw [ptrs_succ, updN_self, ptrs_congr (g := pn) (fun k hk => updN_ne _ _ (by omega))]
    exact ra
  · rw [ptrs_succ, hbt, ptrs_congr (g := fun j => bl (.Tb j)) (fun k hk => blT_old (fun e => by injection e with e; omega) (fun e => by cases e))]
    exact rb
  · exact h2.me.fr hf (by
      rintro (e | e | e)
      · cases h.a.inj _ _ h.a.pr.2.1 h.a.pr.1 e
      · exact (h.a.fa _ e).1 _ h.a.pr.2.1 rfl
      · exact (h.a.fb _ e).1 _ h.a.pr.2.1 rfl)
  · have hxy := h.gv x y hx hy
    refine ⟨fun hok => ?_, fun hnk => hxy.2.1 (fun hok => hnk (.inl hok)), hxy.2.2⟩
    rcases hok with hok | e | e
    · exact hxy.1 hok
    · cases e
    · cases e
end
end Go.Proofs.YthgbcgphkddmgaaGreat
namespace Go.Proofs.YthgbcgphkddmgaaGreat
open Go.RowKit Go.Maps
set_option linter.unusedVariables false
set_option linter.unusedSimpArgs false
set_option maxRecDepth 100000 in
set_option maxHeartbeats 4000000 in
theorem nnew_any (n : Int) (w : World) (h1 : 1 ≤ n) (h2 : n ≤ 8) : Calls Tryz.prog 35 #[.int .i64 n] w fun e w' => ∃ t m, e = .returned (.tuple #[.pointer (some ⟨t, 0, none⟩), .int .i64 0]) ∧ w.heap.size ≤ t ∧ w.heap.size ≤ m ∧ Nm.NmAt w' t n 0 m (fun _ => none) ∧ Fr (fun _ => False) w w' := by
  have d1 : decide (n < 1) = false := decide_eq_false (by omega)
  have d2 : decide (8 < n) = false := decide_eq_false (by omega)
  have hmk : ∀ w, (Instr.makeMap 133 none).run Tryz.prog w = .ok (.map (some w.heap.size)) (w.alloc (.map #[] 0)) := fun w => by kernel_rfl
  go_enter Tryz.func35, Tryz.ntmps35
  go_wp2_with fail
  have hz : (w.alloc (.map #[] 0)).heap.size = w.heap.size + 1 := by simp
  refine bodyPost_ret (v := .tuple #[.pointer (some ⟨w.heap.size + 1, 0, none⟩), .int .i64 0]) (by simp [results, Tryz.results35, go_sem]) rfl ⟨_, w.heap.size, rfl, by omega, by omega, ⟨by simp [go_sem], by simp [go_sem], by simp [go_sem], fun o => by simp [go_sem], by omega, ?_⟩, ((Fr.refl _ _).alloc _).alloc _⟩
  exact (Nm.OwnT.made w).fr (S := fun _ => False) (Fr.of_below ((Below.refl _ _).alloc (Nat.le_refl _) _)) (fun h => h)
set_option maxRecDepth 100000 in
set_option maxHeartbeats 4000000 in
theorem lnew_any (w : World) : Calls Tryz.prog 36 #[.int .i64 8] w fun e w' => ∃ t, e = .returned (.tuple #[.pointer (some ⟨t, 0, none⟩), .int .i64 0]) ∧ w.heap.size ≤ t ∧ EndQ w' t ∧ Fr (fun _ => False) w w' := by
  go_enter Tryz.func36, Tryz.ntmps36
  go_wp2_with fail
  refine bodyPost_ret (v := .tuple #[.pointer (some ⟨w.heap.size, 0, none⟩), .int .i64 0]) (by simp [results, Tryz.results36, go_sem]) rfl ⟨_, rfl, Nat.le_refl _, ⟨by simp [go_sem], by simp [go_sem], by simp [go_sem], by simp [go_sem], by simp [go_sem], by simp [go_sem], by simp [go_sem], fun o => by simp [go_sem]⟩, (Fr.refl _ _).alloc _⟩
/-- which blocks there are: i nodes and their lines; and, of the node in work, the lines below k -/
def okI (N i k : Nat) : CBk → Prop
  | .P | .Me | .Mw | .Mt | .Mo | .Mh => True
  | .Va | .Vb => False
  | .Tb j | .Mb j => j < i
  | .Ed j l => (j + 1 < i ∧ l < N ∧ j ≠ l) ∨ (j + 1 = i ∧ l < k ∧ j ≠ l)
theorem okI_more (N i : Nat) (a : CBk) : okI N (i + 1) 0 a ↔ okI N i N a ∨ (a = .Tb i ∨ a = .Mb i) := by
  cases a <;> simp [okI] <;> omega
theorem okI_line (N i k : Nat) (h : k ≠ i) (a : CBk) : okI N (i + 1) (k + 1) a ↔ okI N (i + 1) k a ∨ a = .Ed i k := by
  cases a <;> simp [okI] <;> omega
theorem okI_skip (N i : Nat) (a : CBk) : okI N (i + 1) (i + 1) a ↔ okI N (i + 1) i a := by
  cases a <;> simp [okI] <;> omega
theorem okI_all (N : Nat) (a : CBk) (h : a.ok N) (h1 : a ≠ .Va) (h2 : a ≠ .Vb) : okI N N N a := by
  cases a <;> simp_all [okI, CBk.ok] <;> omega
theorem okI_ok (N : Nat) (a : CBk) (h : okI N N N a) : a.ok N := by
  cases a <;> simp_all [okI, CBk.ok] <;> omega
def blV (bl : CBk → Nat) (ga gb : Nat) : CBk → Nat
  | .Va => ga
  | .Vb => gb
  | a => bl a
def newC (n fuel : Nat) : CqS := ⟨n, fun i => newN ((i : Int) + 1) fuel, fun _ => 0, fun _ _ => none, fun _ => false, 0⟩
theorem NwG.done {w : World} {s : Nat} {bl : CBk → Nat} {N fuel : Nat} {va vb : Value} {pn lo hi : Nat → Nat} {Pn : Nat → Int → Nat} {nm : Nat} {g : Nat → Nat → Option Value} (h1 : 1 ≤ N) (h8 : N ≤ 8) (hnm : nm ≤ 100) (h : NwG w s (okI N N N) bl N fuel va vb pn lo hi Pn nm g) :
    ∃ bl', bl' .P = bl .P ∧ CqAt w (fun k => s ≤ k ∧ k < w.heap.size) (fun k => s ≤ k ∧ k < w.heap.size) s 0 bl' pn 0 (newC N fuel) := by
  obtain ⟨ga, ca, rfl, hga, hgl, -⟩ := own_form h.ra (by omega)
  obtain ⟨gb, cb, rfl, hgb, hgl2, -⟩ := own_form h.rb (by omega)
  have fa := h.a.fa ga rfl
  have fb := h.a.fb gb rfl
  have hab : ga ≠ gb := fun e => h.a.fab ga rfl (by rw [e]; rfl)
  have hok : ∀ a, okI N N N a → a ≠ .Va ∧ a ≠ .Vb := fun a ha => ⟨fun e => (by subst e; exact ha), fun e => (by subst e; exact ha)⟩
  have hbo : ∀ a, okI N N N a → blV bl ga gb a = bl a := fun a ha => by
    cases a <;> first | rfl | exact absurd ha (fun h => h)
  have hcase : ∀ a : CBk, a.ok N → (okI N N N a ∧ blV bl ga gb a = bl a) ∨ (a = .Va ∧ blV bl ga gb a = ga) ∨ (a = .Vb ∧ blV bl ga gb a = gb) := fun a ha => by
    by_cases e1 : a = .Va
    · subst e1; exact .inr (.inl ⟨rfl, rfl⟩)
    · by_cases e2 : a = .Vb
      · subst e2; exact .inr (.inr ⟨rfl, rfl⟩)
      · have := okI_all N a ha e1 e2
        exact .inl ⟨this, hbo a this⟩
  refine ⟨blV bl ga gb, rfl, .slice none 0 0, fun j k => lo j ≤ k ∧ k < hi j, Pn, ⟨h1, h8⟩, fun a b ha hb e => ?_, fun a ha => ?_, fun k hk => (by cases hk), fun i hI k hk => ?_, fun k hk => ⟨hk, hk.1⟩, fun i j hI hj hne k hk hk2 => ?_, fun i hI => h.k.nd i hI, fun i hI => rfl, ?_, ?_⟩
  · rcases hcase a ha with ⟨h3, e3⟩ | ⟨h3, e3⟩ | ⟨h3, e3⟩ <;> rcases hcase b hb with ⟨h4, e4⟩ | ⟨h4, e4⟩ | ⟨h4, e4⟩ <;> rw [e3, e4] at e
    · exact h.a.inj a b h3 h4 e
    · exact absurd e (fa.1 a h3)
    · exact absurd e (fb.1 a h3)
    · exact absurd e.symm (fa.1 b h4)
    · exact h3.trans h4.symm
    · exact absurd e hab
    · exact absurd e.symm (fb.1 b h4)
    · exact absurd e.symm hab
    · exact h3.trans h4.symm
  · rcases hcase a ha with ⟨h3, e3⟩ | ⟨h3, e3⟩ | ⟨h3, e3⟩ <;> rw [e3]
    · exact ⟨h.a.lt a h3, fun i hi => h.a.off i a hi h3⟩
    · exact ⟨fa.2.2, fa.2.1⟩
    · exact ⟨fb.2.2, fb.2.1⟩
  · have h3 := h.a.iv i hI
    have hk : lo i ≤ k ∧ k < hi i := hk
    omega
  · have h3 := h.a.dis i j hI hj hne
    have hk : lo i ≤ k ∧ k < hi i := hk
    have hk2 : lo j ≤ k ∧ k < hi j := hk2
    omega
  · exact ⟨⟨ca, h.p.c0⟩, ⟨cb, h.p.c1⟩, h.p.c2, h.p.c3, h.p.c4, h.p.c5, h.p.c6, h.p.c7, h.p.c8, h.p.fz⟩
  · refine ⟨fun i hI => ?_, fun i hI => ?_, fun i hI => h.k.nms i hI, ⟨nm, hnm, h.me.congr (fun x y hx hy => ?_)⟩, fun i k hI hk e => h.k.ed i k (okI_all N _ ⟨hI, hk, e⟩ (by intro e; cases e) (by intro e; cases e)), h.k.mw, h.k.mt, h.k.mo, ⟨0, Nat.le_refl _, h.k.mh.congr (fun x _ => rfl)⟩, ⟨[], World.ownsRow_nil _ _ _ _⟩⟩
    · have := World.ownsRow.cellAt h.ra i (by show i < N * 1; have : i < N := hI; omega)
      rw [ptrs_at pn (show i < N from hI)] at this
      exact this
    · have := World.ownsRow.cellAt h.rb i (by show i < N * 1; have : i < N := hI; omega)
      rw [ptrs_at _ (show i < N from hI)] at this
      exact this
    · show endsG (blV bl ga gb) N x y = g x y
      unfold endsG
      by_cases hc : 1 ≤ x ∧ x ≤ N ∧ 1 ≤ y ∧ y ≤ N ∧ x ≠ y
      · rw [if_pos hc]
        have hed : okI N N N (.Ed (x - 1) (y - 1)) := okI_all N _ ⟨by omega, by omega, by omega⟩ (by intro e; cases e) (by intro e; cases e)
        have := (h.gv (x - 1) (y - 1) (by omega) (by omega)).1 hed
        rw [show x - 1 + 1 = x by omega, show y - 1 + 1 = y by omega] at this
        rw [this, hbo _ hed]
      · rw [if_neg hc]
        by_cases hx0 : x = 0
        · subst hx0; exact ((h.gv 0 y (by omega) hy).2.2.2).symm
        · by_cases hy0 : y = 0
          · subst hy0; exact ((h.gv x 0 hx (by omega)).2.2.1).symm
          · have := (h.gv (x - 1) (y - 1) (by omega) (by omega)).2.1 (fun hok => by
              have : (CBk.Ed (x - 1) (y - 1)).ok N := okI_ok N _ hok
              have : x - 1 < N ∧ y - 1 < N ∧ x - 1 ≠ y - 1 := this
              omega)
            rw [show x - 1 + 1 = x by omega, show y - 1 + 1 = y by omega] at this
            exact this.symm
end Go.Proofs.YthgbcgphkddmgaaGreat
