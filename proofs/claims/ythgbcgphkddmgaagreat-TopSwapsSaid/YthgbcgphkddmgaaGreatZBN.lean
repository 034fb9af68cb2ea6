/- The cluster of a line's law as it is made: sinks and pumps. A quiet cluster is one with live lines that have nothing to say. What stays true while the nodes of such a cluster turn and tick. -/
import Derived.Test.YthgbcgphkddmgaaGreatZBM
import Derived.Test.YthgbcgphkddmgaaGreatZAW
import Derived.Test.YthgbcgphkddmgaaGreatZBC
import Derived.Test.YthgbcgphkddmgaaGreatZBI
namespace Go.Proofs.YthgbcgphkddmgaaGreat
open Go.RowKit
set_option linter.unusedVariables false
set_option linter.unusedSimpArgs false
/-- a pump's plan: from which node to which one, how many -/
def planOf (n : Nat) (k : Int) : Nat × Nat × Nat := (restK k n, restK (k.tdiv 8) n, restK (k.tdiv 64) 9)
def plansOf (n : Nat) (l : List Int) : List (Nat × Nat × Nat) := (l.take 6).map (planOf n)
def plN (ps : List (Nat × Nat × Nat)) (k : Nat) : Nat × Nat × Nat := ps.getD k (0, 0, 0)
def pumpSt (i : Nat) (p : Nat × Nat × Nat) : List (Int × Int) := [(6, (((p.2.1 + 1) * 1000 + 1 : Nat) : Int)), (2, ((100 * i : Nat) : Int)), (2, (p.2.2 : Int))]
def spawnC (C : CqS) (i : Nat) (nm : ByteArray) (st : List (Int × Int)) : CqS := ⟨C.n, updN C.nd i (spawnN (C.nd i) nm st).1, C.cnt, C.tab, fun x => C.held x || x == (C.nd i).id * 1000 + (C.nd i).spawned + 1, C.hn + 1⟩
def sinksC (n : Nat) : Nat → CqS
  | 0 => Cx.newC n 3
  | k + 1 => spawnC (sinksC n k) k sinkS []
def pumpsC (n : Nat) (ps : List (Nat × Nat × Nat)) : Nat → CqS
  | 0 => sinksC n n
  | k + 1 => spawnC (pumpsC n ps k) (plN ps k).1 pumpS (pumpSt k (plN ps k))
/-- node i with q runners of such a law, that has not had a turn -/
structure RvI (n i q : Nat) (N : NdS) : Prop where
  rv : RvN n i N 0
  len : N.acts.length = q
  sp : N.spawned = q
  ref : ∀ a, a ∈ N.acts → a.ref ≤ ((i : Int) + 1) * 1000 + q
theorem RvI.has {n i q : Nat} {N : NdS} (h : RvI n i q N) : N.has (N.id * 1000 + N.spawned + 1) = false := by
  cases e : N.has (N.id * 1000 + N.spawned + 1) with
  | false => rfl
  | true =>
    obtain ⟨a, ha, hr⟩ := has_iff.1 e
    have := h.ref a ha
    rw [hr, h.rv.id, h.sp] at this
    omega
theorem RvI.pot {n i q : Nat} {N : NdS} (h : RvI n i q N) : pot N ≤ 201 * q := by
  obtain ⟨L, h1, h2, -⟩ := h.rv.out
  unfold Go.Proofs.YthgbcgphkddmgaaGreat.pot
  rw [h1, List.length_map, h.len]
  omega
theorem insA_len2 (a : ActS) : ∀ l : List ActS, (insA a l).length = l.length + 1
  | [] => rfl
  | b :: l => by
    unfold insA
    split
    · rfl
    · simp [insA_len2 a l]
theorem RvI.spawn {n i q : Nat} {N : NdS} (h : RvI n i q N) (hi : i < 8) (hq : q < 50) {nm : ByteArray} {st : List (Int × Int)} {r : RunS} (hm : makeN nm st = some r) (hr : RvR n r) : RvI n i (q + 1) (spawnN N nm st).1 ∧ (spawnN N nm st).2.1 = ((i : Int) + 1) * 1000 + q + 1 := by
  have e := spawnN_ok hm h.has (by rw [h.len]; omega) (by rw [h.sp]; omega)
  rw [e]
  have hid := h.rv.id
  have hsp := h.sp
  refine ⟨⟨⟨hid, h.rv.fuel, h.rv.homes, fun a ha => ?_, h.rv.out⟩, ?_, ?_, fun a ha => ?_⟩, ?_⟩
  · rcases mem_insA.1 ha with e1 | ha
    · rw [e1]
      refine ⟨hr, ?_⟩
      show 0 ≤ N.id * 1000 + N.spawned + 1 ∧ N.id * 1000 + N.spawned + 1 < 2097152 ∧ (0 : Int) ≤ 0
      rw [hid, hsp]
      omega
    · exact h.rv.acts a ha
  · show (insA _ N.acts).length = _
    rw [insA_len2, h.len]
  · show N.spawned + 1 = _
    rw [hsp]
  · rcases mem_insA.1 ha with e1 | ha
    · rw [e1]
      show N.id * 1000 + N.spawned + 1 ≤ _
      rw [hid, hsp]
      omega
    · have := h.ref a ha
      omega
  · show N.id * 1000 + N.spawned + 1 = _
    rw [hid, hsp]
theorem RvI.new (n i : Nat) : RvI n i 0 (newN ((i : Int) + 1) 3) :=
  ⟨⟨rfl, rfl, fun _ => rfl, fun a ha => (by cases ha), [], rfl, Nat.le_refl _, fun f hf => by cases hf⟩, rfl, rfl, fun a ha => by cases ha⟩
theorem sink_rv (n : Nat) : makeN sinkS [] = some ⟨false, [], 0, false, false, 0⟩ ∧ RvR n ⟨false, [], 0, false, false, 0⟩ := ⟨by unfold makeN; rw [if_pos rfl], fun h => by cases h⟩
theorem pump_rv {n i : Nat} {p : Nat × Nat × Nat} (hi : i ≤ 5) (hp : p.2.1 < n ∧ p.2.2 ≤ 8) : makeN pumpS (pumpSt i p) = some ⟨true, pumpSt i p, 0, false, false, 0⟩ ∧ RvR n ⟨true, pumpSt i p, 0, false, false, 0⟩ := by
  have h1 : pumpS ≠ sinkS := by decide
  refine ⟨by unfold makeN; rw [if_neg h1, if_pos ⟨rfl, rfl⟩], fun _ => ⟨p.2.1, 100 * i, p.2.2, hp.1, rfl, by omega, hp.2⟩⟩
/-- how far a cluster of such a law is made -/
structure RvM (n m : Nat) (q : Nat → Nat) (C : CqS) : Prop where
  cn : C.n = n
  hn : C.hn = m
  nd : ∀ i, i < n → RvI n i (q i) (C.nd i)
theorem RvM.spawn {n m i : Nat} {q : Nat → Nat} {C : CqS} (h : RvM n m q C) (hi : i < n) (hn : n ≤ 8) (hq : q i < 50) {nm : ByteArray} {st : List (Int × Int)} {r : RunS} (hm : makeN nm st = some r) (hr : RvR n r) : RvM n (m + 1) (fun j => if j = i then q i + 1 else q j) (spawnC C i nm st) :=
  ⟨h.cn, by show C.hn + 1 = _; rw [h.hn], fun j hj => by
    show RvI n j (if j = i then q i + 1 else q j) (updN C.nd i _ j)
    by_cases e : j = i
    · subst e
      rw [if_pos rfl, updN_self]
      exact ((h.nd j hj).spawn (by omega) hq hm hr).1
    · rw [if_neg e, updN_ne _ _ e]
      exact h.nd j hj⟩
theorem sinks_ok {n : Nat} (hn : n ≤ 8) : ∀ k, k ≤ n → RvM n k (fun i => if i < k then 1 else 0) (sinksC n k)
  | 0, _ => ⟨rfl, rfl, fun i _ => RvI.new n i⟩
  | k + 1, hk => by
    have h := sinks_ok hn k (by omega)
    have := h.spawn (i := k) (by omega) hn (by rw [if_neg (by omega)]; omega) (sink_rv n).1 (sink_rv n).2
    have e : (fun j => if j = k then (if k < k then 1 else 0) + 1 else if j < k then 1 else 0) = fun j => if j < k + 1 then 1 else 0 := by
      funext j
      by_cases e1 : j = k
      · subst e1
        rw [if_pos rfl, if_neg (by omega), if_pos (by omega)]
      · rw [if_neg e1]
        by_cases e2 : j < k
        · rw [if_pos e2, if_pos (by omega)]
        · rw [if_neg e2, if_neg (by omega)]
    rw [e] at this
    exact this
/-- how many runners a node has -/
def pumpQ (ps : List (Nat × Nat × Nat)) : Nat → Nat → Nat
  | 0, _ => 1
  | k + 1, i => if i = (plN ps k).1 then pumpQ ps k i + 1 else pumpQ ps k i
theorem pumpQ_le (ps : List (Nat × Nat × Nat)) (i : Nat) : ∀ k, 1 ≤ pumpQ ps k i ∧ pumpQ ps k i ≤ k + 1
  | 0 => ⟨Nat.le_refl _, Nat.le_refl _⟩
  | k + 1 => by
    have := pumpQ_le ps i k
    unfold pumpQ
    split <;> omega
theorem plN_mem {ps : List (Nat × Nat × Nat)} {k : Nat} (h : k < ps.length) : plN ps k ∈ ps := by
  unfold plN
  rw [List.getD_eq_getElem?_getD, List.getElem?_eq_getElem h]
  exact List.getElem_mem h
theorem pumps_ok {n : Nat} (hn : n ≤ 8) {ps : List (Nat × Nat × Nat)} (hl : ps.length ≤ 6) (hp : ∀ p, p ∈ ps → p.1 < n ∧ p.2.1 < n ∧ p.2.2 ≤ 8) : ∀ k, k ≤ ps.length → RvM n (n + k) (pumpQ ps k) (pumpsC n ps k)
  | 0, _ => by
    have h := sinks_ok hn n (Nat.le_refl _)
    exact ⟨h.cn, h.hn, fun i hi => by
      have := h.nd i hi
      rw [if_pos hi] at this
      exact this⟩
  | k + 1, hk => by
    have h := pumps_ok hn hl hp k (by omega)
    obtain ⟨h1, h2, h3⟩ := hp _ (plN_mem (show k < ps.length by omega))
    have hq := pumpQ_le ps (plN ps k).1 k
    have := h.spawn (i := (plN ps k).1) h1 hn (by omega) (pump_rv (i := k) (by omega) ⟨h2, h3⟩).1 (pump_rv (i := k) (by omega) ⟨h2, h3⟩).2
    have e : (fun j => if j = (plN ps k).1 then pumpQ ps k (plN ps k).1 + 1 else pumpQ ps k j) = pumpQ ps (k + 1) := by
      funext j
      show _ = if j = (plN ps k).1 then pumpQ ps k j + 1 else pumpQ ps k j
      by_cases e1 : j = (plN ps k).1
      · rw [if_pos e1, if_pos e1, e1]
      · rw [if_neg e1, if_neg e1]
    rw [e] at this
    exact this
end Go.Proofs.YthgbcgphkddmgaaGreat
namespace Go.Proofs.YthgbcgphkddmgaaGreat
open Go.RowKit Go.Maps
set_option linter.unusedVariables false
set_option linter.unusedSimpArgs false
def liveC (C : CqS) (ll : Nat) : GcS := ⟨C.n, C.nd, C.cnt, C.tab, C.held, C.hn, fun _ _ => ⟨8, 0, 0, [], [], false⟩, fun _ _ => [], fun _ _ => [], [], ll⟩
theorem FlR.nil0 (w : World) (base : Nat) : FlR w base (.slice none 0 0) [] := ⟨fun _ => .slice none 0 0, fun _ => ⟨none, 0, rfl⟩, by
  have := QR.of_own (World.ownsRow_nil w base 154 9)
  simpa [flatC] using this⟩
section
variable {w : World} {X Mc : Nat → Prop} {base T : Nat} {bl : CBk → Nat} {pn : Nat → Nat} {vl : Value} {ll : Nat} {M : Nat → Nat → Prop} {Pn : Nat → Int → Nat} {C : CqS}
def liveR (vl : Value) : RBk → Value := fun r => if r = .Log then vl else .slice none 0 0
theorem liveR_blk {vl : Value} {r : RBk} {k : Nat} (h : (liveR vl r).ownBlock = some k) : r = .Log ∧ vl.ownBlock = some k := by
  unfold liveR at h
  by_cases e : r = .Log
  · rw [if_pos e] at h
    exact ⟨e, h⟩
  · rw [if_neg e] at h
    cases h
theorem CqG.live (h : CqG w X Mc base T bl pn vl ll M Pn C) : GcG w X Mc base T bl pn (liveR vl) (fun _ => False) M Pn (liveC C ll) := by
  refine ⟨h.n8, h.inj, h.own, fun r hr k hk => ?_, fun k hk => hk.elim, h.sub, h.mx, h.dis, h.nd, h.ids, fun a ha => ?_, fun r hr => ?_⟩
  · obtain ⟨e, hv⟩ := liveR_blk hk
    obtain ⟨h1, h2, h3⟩ := h.vlm k hv
    exact ⟨h1, h2, h3, fun r' _ hk' => by rw [(liveR_blk hk').1, e]⟩
  · cases a with
    | P => exact ⟨h.cp.c0, h.cp.c1, h.cp.c2, h.cp.c3, h.cp.c4, h.cp.c5, h.cp.c6, h.cp.c7, h.cp.c8, h.cp.fz⟩
    | Va => exact h.co.ra
    | Vb => exact h.co.rb
    | Tb i => exact h.co.nm i ha
    | Mb i => trivial
    | Ed i k =>
      have hq := h.co.ed i k ha.1 ha.2.1 ha.2.2
      exact ⟨fun _ => .slice none 0 0, fun _ => .slice none 0 0, hq.c0, hq.c1, hq.c2, hq.c3, hq.c4, hq.c5, hq.c6, hq.fz, World.ownsRow_nil _ _ _ _, World.ownsRow_nil _ _ _ _, fun j hj => absurd hj (Nat.not_lt_zero _), fun j hj => absurd hj (Nat.not_lt_zero _), ⟨fun k hk => (by cases hk), fun k hk => by cases hk⟩, fun k hk => hk.elim, fun k hk => hk.elim, by show (8 : Nat) ≤ 16; omega, by show (0 : Nat) < 2000000000; omega, by show (0 : Nat) < 2000000000; omega, Nat.zero_le _, Nat.zero_le _⟩
    | Me => exact h.co.me
    | Mw => exact ⟨0, _, Nat.zero_le _, h.co.mw, fun _ _ _ _ _ => rfl⟩
    | Mt => exact ⟨0, _, Nat.zero_le _, h.co.mt, fun _ _ _ _ _ => rfl⟩
    | Mo => exact h.co.mo
    | Mh => exact h.co.mh
  · cases r with
    | Out i k => trivial
    | Inn i k => trivial
    | Wt i k => exact FlR.nil0 w base
    | Tr i k => exact FlR.nil0 w base
    | Air => exact ⟨fun _ => .slice none 0 0, World.ownsRow_nil _ _ _ _, fun j hj => absurd hj (Nat.not_lt_zero _)⟩
    | Log => exact h.co.lg
end
end Go.Proofs.YthgbcgphkddmgaaGreat
namespace Go.Proofs.YthgbcgphkddmgaaGreat
open Go.RowKit
set_option linter.unusedVariables false
set_option linter.unusedSimpArgs false
theorem pour_mem : ∀ (e : EnS) (l t : List FL) {x : FL}, x ∈ (pourL e l t).2.1 → x ∈ l
  | e, [], t, x, h => h
  | e, y :: l, t, x, h => by
    unfold pourL at h
    split at h
    · exact h
    · exact List.mem_cons_of_mem _ (pour_mem _ _ _ h)
theorem pour_len : ∀ (e : EnS) (l t : List FL), (pourL e l t).2.2.length + (pourL e l t).2.1.length = t.length + l.length
  | e, [], t => rfl
  | e, y :: l, t => by
    unfold pourL
    split
    · rfl
    · rw [pour_len]
      simp only [List.length_append, List.length_cons, List.length_nil]
      omega
/-- what waits is right, and is not much -/
structure RowW (b : Nat) (r : RowS) : Prop where
  ok : ∀ k x, x ∈ r.wt k → x.ok
  len : ∀ k, (r.tr k).length + (r.wt k).length ≤ b
theorem fillR_W {k b : Nat} {r : RowS} (h : RowW b r) : RowW b (fillR k r).1 ∧ (fillR k r).1.nd = r.nd := by
  refine ⟨⟨fun j x hx => ?_, fun j => ?_⟩, rfl⟩
  · have hx' : x ∈ updN r.wt k (pourL (r.en k) (r.wt k) (r.tr k)).2.1 j := hx
    by_cases e : j = k
    · subst e
      rw [updN_self] at hx'
      exact h.ok j x (pour_mem _ _ _ hx')
    · rw [updN_ne _ _ e] at hx'
      exact h.ok j x hx'
  · show (updN r.tr k (pourL (r.en k) (r.wt k) (r.tr k)).2.2 j).length + (updN r.wt k (pourL (r.en k) (r.wt k) (r.tr k)).2.1 j).length ≤ b
    by_cases e : j = k
    · subst e
      rw [updN_self, updN_self, pour_len]
      exact h.len j
    · rw [updN_ne _ _ e, updN_ne _ _ e]
      exact h.len j
theorem fillRs_W {i b : Nat} : ∀ (m : Nat) {r : RowS}, RowW b r → RowW b (fillRs i m r).1 ∧ (fillRs i m r).1.nd = r.nd
  | 0, r, h => ⟨h, rfl⟩
  | m + 1, r, h => by
    obtain ⟨h1, h2⟩ := fillRs_W (i := i) m h
    unfold fillRs
    split
    · exact ⟨h1, h2⟩
    · obtain ⟨h3, h4⟩ := fillR_W (k := m) h1
      exact ⟨h3, h4.trans h2⟩
theorem flowR_W {n i b : Nat} {r : RowS} {L : List FL} (h : RowW b r) (hL : L.length ≤ 3) (ho : ∀ f, f ∈ L → f.ok) : RowW (b + 3) (flowR n i r L).1 ∧ (flowR n i r L).1.nd = outN r.nd := by
  unfold flowR
  refine fillRs_W n ⟨fun k x hx => ?_, fun k => ?_⟩
  · rcases List.mem_append.1 (show x ∈ r.wt k ++ _ from hx) with hx | hx
    · exact h.ok k x hx
    · exact ho x (List.mem_filter.1 hx).1
  · show (r.tr k).length + (r.wt k ++ L.filter _).length ≤ b + 3
    rw [List.length_append]
    have := h.len k
    have := List.length_filter_le (fun f : FL => f.dst / 1000 == k + 1) L
    omega
theorem turn_err {N : NdS} (h : ¬ (turnN N).2.2 = 0) : (turnN N).1 = N := by
  unfold turnN at h ⊢
  split
  · rfl
  · rename_i h1
    rw [if_neg h1] at h
    exact absurd rfl h
/-- a node's row, when m deeds have been done -/
structure RowI (n i m : Nat) (r : RowS) : Prop where
  nd : RvN n i r.nd 0
  w : RowW (3 * m) r
  b : RowB r
theorem RowI.turn {n i m : Nat} {r : RowS} (hn : n ≤ 8) (h : RowI n i m r) : RvN n i (turnN r.nd).1 3 := turn_rv hn h.nd
theorem RowI.deed {n m : Nat} {p : Nat × Bool} {r : RowS} (hn : n ≤ 8) (hp : p.1 < n) (h : RowI n p.1 m r) : RowI n p.1 (m + 1) (deedR n p r).1 := by
  have hB := (deedR_B (n := n) (p := p) hp h.b).1
  have hw : ∀ r', RowW (3 * m) r' → RowW (3 * (m + 1)) r' := fun r' h' => ⟨h'.ok, fun k => by have := h'.len k; omega⟩
  unfold deedR at hB ⊢
  split
  · rename_i hb
    rw [if_pos hb] at hB
    have ht := tick_rv h.nd
    obtain ⟨h1, h2, h3⟩ := ht.outs
    have hf := flowR_W (n := n) (i := p.1) (b := 3 * m) (r := { r with nd := tickN r.nd, en := fun b => (r.en b).tick }) (L := outL (tickN r.nd).out) ⟨h.w.ok, h.w.len⟩ (by omega) (fun f hf => (h3 f hf).1)
    refine ⟨?_, hf.1, hB⟩
    show RvN n p.1 (flowR n p.1 _ _).1.nd 0
    rw [hf.2]
    exact out_rv ht
  · rename_i hb
    rw [if_neg hb] at hB
    have ht := h.turn hn
    unfold turnR at hB ⊢
    split
    · rename_i h0
      rw [if_pos h0] at hB
      obtain ⟨h1, h2, h3⟩ := ht.outs
      have hf := flowR_W (n := n) (i := p.1) (b := 3 * m) (r := { r with nd := (turnN r.nd).1 }) (L := outL (turnN r.nd).1.out) ⟨h.w.ok, h.w.len⟩ h2 (fun f hf => (h3 f hf).1)
      refine ⟨?_, hf.1, hB⟩
      show RvN n p.1 (flowR n p.1 _ _).1.nd 0
      rw [hf.2]
      exact out_rv ht
    · rename_i h0
      rw [if_neg h0] at hB
      refine ⟨?_, hw _ ⟨h.w.ok, h.w.len⟩, hB⟩
      show RvN n p.1 (turnN r.nd).1 0
      rw [turn_err h0]
      exact h.nd
/-- a cluster, when m deeds have been done -/
structure LvI (n m : Nat) (C : GcS) : Prop where
  cn : C.n = n
  row : ∀ i, i < n → RowI n i m (rowOf C i)
  rb : ∀ i, RowB (rowOf C i)
  air : C.air.length ≤ 24 * m
  ll : C.ll ≤ m
theorem fillTo_ll (i : Nat) (C : GcS) : ∀ m, (fillTo i m C).ll = C.ll
  | 0 => rfl
  | m + 1 => by
    unfold fillTo
    split
    · exact fillTo_ll i C m
    · exact fillTo_ll i C m
theorem deedS_ll (p : Nat × Bool) (C : GcS) : (deedS p C).ll ≤ C.ll + 1 := by
  unfold deedS
  split
  · show (fillTo _ _ _).ll ≤ _
    rw [fillTo_ll]
    exact Nat.le_refl _
  · unfold turnS
    split
    · show (fillTo _ _ _).ll ≤ _
      rw [fillTo_ll]
      exact Nat.le_refl _
    · exact Nat.le_succ _
theorem LvI.deed {n m : Nat} {C : GcS} (h : LvI n m C) (hn : n ≤ 4) {p : Nat × Bool} (hp : p.1 < n) (hm : m < 16) : LvI n (m + 1) (deedS p C) := by
  have hair := h.air
  have hd := deedS_row (p := p) (C := C) (by rw [h.cn]; exact hp) (h.rb p.1) (by rw [h.cn]; omega)
  have hB := deedR_B (n := C.n) (p := p) (by rw [h.cn]; exact hp) (h.rb p.1)
  have hw : ∀ {i r}, RowI n i m r → RowI n i (m + 1) r := fun h' => ⟨h'.nd, ⟨h'.w.ok, fun k => by have := h'.w.len k; omega⟩, h'.b⟩
  refine ⟨hd.n.trans h.cn, fun i hi => ?_, fun i => ?_, ?_, ?_⟩
  · by_cases e : i = p.1
    · subst e
      rw [hd.row, h.cn]
      exact (h.row _ hi).deed (by omega) hp
    · rw [hd.oth i e]
      exact hw (h.row i hi)
  · by_cases e : i = p.1
    · subst e
      rw [hd.row]
      exact hB.1
    · rw [hd.oth i e]
      exact h.rb i
  · rw [hd.air, List.length_append]
    have h1 := hB.2
    have h2 := h.cn
    omega
  · have := deedS_ll p C
    have := h.ll
    omega
theorem LvI.start {n : Nat} (hn : n ≤ 8) {ps : List (Nat × Nat × Nat)} (hl : ps.length ≤ 6) (hp : ∀ p, p ∈ ps → p.1 < n ∧ p.2.1 < n ∧ p.2.2 ≤ 8) : LvI n 0 (liveC (pumpsC n ps ps.length) 0) := by
  have h := pumps_ok hn hl hp ps.length (Nat.le_refl _)
  exact ⟨h.cn, fun i hi => ⟨(h.nd i hi).rv, ⟨fun k x hx => (by cases hx), fun k => Nat.le_refl _⟩, fun k => Nat.zero_le _⟩, fun i k => Nat.zero_le _, Nat.le_refl _, Nat.le_refl _⟩
/-- what a number of the script says: whose deed, and whether it is a tick -/
def opOf (n : Nat) (k : Int) : Nat × Bool := (restK (k.tdiv 4) n, decide (restK k 4 = 0))
def playS (n : Nat) (F : Nat → Int) (C : GcS) : Nat → GcS
  | 0 => C
  | m + 1 => deedS (opOf n (F m)) (playS n F C m)
theorem LvI.play {n : Nat} {F : Nat → Int} {C : GcS} (h : LvI n 0 C) (hn : 1 ≤ n ∧ n ≤ 4) : ∀ m, m ≤ 12 → LvI n m (playS n F C m)
  | 0, _ => h
  | m + 1, hm => (h.play hn m (by omega)).deed hn.2 (restK_lt _ hn.1) (by omega)
theorem playS_fold (n : Nat) (F : Nat → Int) (C : GcS) : ∀ m, playS n F C m = ((List.range m).map fun j => opOf n (F j)).foldl (fun C p => deedS p C) C
  | 0 => rfl
  | m + 1 => by
    rw [List.range_succ, List.map_append, List.foldl_append, ← playS_fold n F C m]
    rfl
end Go.Proofs.YthgbcgphkddmgaaGreat
