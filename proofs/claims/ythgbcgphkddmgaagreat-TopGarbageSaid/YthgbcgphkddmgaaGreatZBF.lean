/- What is known of each actor: Knows. -/
import Derived.Test.YthgbcgphkddmgaaGreatZBE
import Derived.Test.YthgbcgphkddmgaaGreatZAI
import Derived.Test.YthgbcgphkddmgaaGreatZBB
import Derived.Test.YthgbcgphkddmgaaGreatZAO
import Derived.Deep.AppendLies
namespace Go.Proofs.YthgbcgphkddmgaaGreat
open Go.RowKit Go.Maps
set_option linter.unusedVariables false
set_option linter.unusedSimpArgs false
structure KnS where
  ref : Int
  awake : Bool
  refs : List Int
def knC (K : Nat → KnS) (V : Nat → Value) (i : Nat) : List Value := [.int .i64 (K i).ref, .bool (K i).awake, .bool false, V i]
/-- a row of what is known, made by the call -/
structure KnRow (w : World) (base : Nat) (v : Value) (n : Nat) (K : Nat → KnS) (V : Nat → Value) : Prop where
  row : w.ownsRow base 119 4 v n (flatC (knC K V) n)
  each : ∀ i, i < n → OwnI w base (V i) (K i).refs
  outer : ∀ i, i < n → ∀ k, (V i).ownBlock = some k → v.ownBlock ≠ some k
theorem KnRow.nil (w : World) (base : Nat) : KnRow w base (.slice none 0 0) 0 (fun _ => ⟨0, false, []⟩) (fun _ => .slice none 0 0) := ⟨World.ownsRow_nil _ _ _ _, fun i hi => by omega, fun i hi => by omega⟩
theorem KnRow.new {w w' : World} {base : Nat} {v : Value} {n : Nat} {K : Nat → KnS} {V : Nat → Value} (h : KnRow w base v n K V) (hf : Fr (fun _ => False) w w') : KnRow w' base v n K V :=
  ⟨hf.row h.row (fun _ _ h => h), fun i hi => hf.row (h.each i hi) (fun _ _ h => h), h.outer⟩
theorem KnRow.mono {w : World} {base base' : Nat} {v : Value} {n : Nat} {K : Nat → KnS} {V : Nat → Value} (h : KnRow w base v n K V) (hb : base' ≤ base) : KnRow w base' v n K V := ⟨own_mono h.row hb, fun i hi => (h.each i hi).mono hb, h.outer⟩
theorem infoKn : (Tryz.prog.info? 119).map (fun i => (i.zero, i.size, i.bytes)) = some (some (.agg #[.int .i64 0, .bool false, .bool false, .slice none 0 0]), 4, 40) := by kernel_rfl
def upK (K : Nat → KnS) (n : Nat) (k : KnS) : Nat → KnS := fun j => if j = n then k else K j
def upV (V : Nat → Value) (n : Nat) (u : Value) : Nat → Value := fun j => if j = n then u else V j
theorem KnRow.snoc {w w' : World} {o : Obj} {base n : Nat} {v v' u : Value} {K : Nat → KnS} {V : Nat → Value} {k : KnS} (h : KnRow w base v n K V) (hg : (w.alloc o).grownBy w' v.ownBlock) (hr : w'.ownsRow base 119 4 v' (n + 1) (flatC (knC K V) n ++ [.int .i64 k.ref, .bool k.awake, .bool false, u])) (hu : OwnI w base u k.refs)
    (hne : ∀ b, u.ownBlock = some b → v.ownBlock ≠ some b) (hat : v'.ownBlock = v.ownBlock ∨ ∃ q, v'.ownBlock = some q ∧ w.heap.size ≤ q) : KnRow w' base v' (n + 1) (upK K n k) (upV V n u) := by
  have hf : Fr (fun b => v.ownBlock = some b) w w' := ((Fr.refl _ w).alloc o).trans' (Fr.of_grown hg (fun b hb => .inl hb))
  have hold : ∀ b, (∃ i, i < n ∧ (V i).ownBlock = some b) ∨ u.ownBlock = some b → v.ownBlock ≠ some b ∧ b < w.heap.size := fun b hb => by
    rcases hb with ⟨i, hi, hb⟩ | hb
    · exact ⟨h.outer i hi b hb, ((h.each i hi).blk b hb).2⟩
    · exact ⟨hne b hb, (hu.blk b hb).2⟩
  have hnew : ∀ b, (∃ i, i < n ∧ (V i).ownBlock = some b) ∨ u.ownBlock = some b → v'.ownBlock ≠ some b := fun b hb e => by
    obtain ⟨h1, h2⟩ := hold b hb
    rcases hat with e2 | ⟨q, e2, hq⟩
    · exact h1 (e2.symm.trans e)
    · rw [e2] at e
      injection e with e
      omega
  refine ⟨?_, fun i hi => ?_, fun i hi b hb => ?_⟩
  · have e : flatC (knC (upK K n k) (upV V n u)) (n + 1) = flatC (knC K V) n ++ [.int .i64 k.ref, .bool k.awake, .bool false, u] := by
      rw [flatC]
      congr 1
      · exact flatC_congr fun j hj => by
          unfold knC upK upV
          rw [if_neg (by omega), if_neg (by omega)]
      · unfold knC upK upV
        rw [if_pos rfl, if_pos rfl]
    rw [e]
    exact hr
  · by_cases e : i = n
    · subst e
      unfold upK upV
      rw [if_pos rfl, if_pos rfl]
      exact hf.row hu (fun b hb => (hold b (.inr hb)).1)
    · unfold upK upV
      rw [if_neg e, if_neg e]
      exact hf.row (h.each i (by omega)) (fun b hb => (hold b (.inl ⟨i, by omega, hb⟩)).1)
  · by_cases e : i = n
    · subst e
      unfold upV at hb
      rw [if_pos rfl] at hb
      exact hnew b (.inr hb)
    · unfold upV at hb
      rw [if_neg e] at hb
      exact hnew b (.inl ⟨i, by omega, hb⟩)
/-- is x known to an actor? -/
def knowB (N : NdS) (a : ActS) (x : Int) : Bool := a.knows x || anyOf (fun i => refsV (nthL a.box i).says x) a.box.length || decide (x ∈ (rowD N.rows a.ref).ws ++ (rowD N.rows a.ref).ls)
structure KnOk (N : NdS) (a : ActS) (k : KnS) : Prop where
  ref : k.ref = a.ref
  awake : k.awake = awakeA a
  srt : k.refs.Pairwise (· < ·)
  mem : ∀ x, Wf x → (x ∈ k.refs ↔ knowB N a x = true ∧ x ≠ 0 ∧ x ≠ a.ref)
  wf : ∀ x, x ∈ k.refs → Wf x
  len : k.refs.length ≤ 1000000000000
def KnowsPost (N : NdS) (w : World) (e : Ending) (w' : World) : Prop :=
  ∃ A c K V, e = .returned (.slice A N.acts.length c) ∧ KnRow w' w.heap.size (.slice A N.acts.length c) N.acts.length K V ∧ (∀ i a, N.acts[i]? = some a → KnOk N a (K i)) ∧ Below w.heap.size w w'
theorem mkRefs' : ∀ w, (Instr.makeMap 144 none).run Tryz.prog w = .ok (.map (some w.heap.size)) (w.alloc (.map #[] 0)) := fun w => by kernel_rfl
theorem Fr.old {w w' : World} (h : Fr (fun k => w.heap.size ≤ k) w w') : Fr (fun _ => False) w w' := ⟨h.os, h.tape, h.output, h.size, fun i hi _ => h.block i hi (by show ¬ w.heap.size ≤ i; omega)⟩
theorem rowD_wf {rows : List Li.LR} (h : RowsOk rows) (ref : Int) : ∀ x, x ∈ (rowD rows ref).ws ++ (rowD rows ref).ls → Wf x := fun x hx => by
  unfold rowD at hx
  rcases hr : rowL rows ref with _ | r
  · rw [hr] at hx
    cases hx
  · rw [hr] at hx
    have hm : r ∈ rows := by
      unfold rowL at hr
      exact List.mem_of_find?_eq_some hr
    have h2 := h.wf r hm
    rcases List.mem_append.1 hx with hx | hx
    · exact h2.2.1 x hx
    · exact h2.2.2 x hx
/-- two rows of numbers, one behind the other -/
theorem rdLs_two {w W : World} {v1 v2 : Value} {l1 l2 : List Int} {t : TypeId} (h1 : NumIn w (fun _ => True) v1 l1) (h2 : NumIn w (fun _ => True) v2 l2) (hW : W = w.alloc (.cells #[v1, v2] t)) : RdLs W (fun _ => True) (some ⟨w.heap.size, 0, none⟩) 2 (fun i => if i = 0 then l1 else l2) := fun _ => by
  have hf : Fr (fun _ => False) w W := by rw [hW]; exact (Fr.refl _ _).alloc _
  have key : ∀ {v : Value} {l : List Int}, NumIn w (fun _ => True) v l → ∃ (qA : Option Addr) (qc : Nat), v = .slice qA l.length qc ∧ l.length ≤ qc ∧ qc ≤ 9223372036854775807 ∧ (qA = none → l.length = 0) ∧ RdI W (fun _ => True) qA l := fun {v l} h => by
    obtain ⟨A, c, e, g1, g2, g3⟩ := h.fr hf (fun _ _ h => h) (fun _ h => h)
    refine ⟨A, c, e, g1, g2, fun hA => ?_, fun h0 => ?_⟩
    · by_cases h0 : 0 < l.length
      · obtain ⟨b, off, e2, _⟩ := g3 h0
        rw [hA] at e2
        cases e2
      · omega
    · obtain ⟨b, off, e2, _, hc⟩ := g3 h0
      exact ⟨b, off, e2, World.block_lt_of_cell? W _ (hc 0 h0), trivial, hc⟩
  refine ⟨w.heap.size, 0, rfl, by rw [hW]; simp, trivial, fun i hi => ?_⟩
  have hi2 : i = 0 ∨ i = 1 := by omega
  rcases hi2 with rfl | rfl
  · obtain ⟨qA, qc, e, g⟩ := key h1
    exact ⟨qA, qc, by rw [hW, e]; simp [go_sem], g⟩
  · obtain ⟨qA, qc, e, g⟩ := key h2
    exact ⟨qA, qc, by rw [hW, e]; simp [go_sem], g⟩
/-- one more reference in a row whose slice lies in a struct -/
theorem kn_keep {wn w6 : World} {o : Obj} {qk base n g cap c9 : Nat} {A9 : Option Addr} {R : List Int} {x : Int} {c0 c1 c2 : Value} (hn : n = R.length) (hC : CellsN wn qk [c0, c1, c2, .slice A9 n c9]) (hO : OwnI wn base (.slice A9 n c9) R) (hq : qk < base) (hown : w6.ownsRow base 3 1 (.slice (some ⟨g, 0, none⟩) (n + 1) cap) (n + 1) (encI R ++ [.int .i64 x])) (hg : (wn.alloc o).grownBy w6 (Value.slice A9 n c9).ownBlock) :
    Fr (fun k => k = qk ∨ (Value.slice A9 n c9).ownBlock = some k) wn (w6.setCell ⟨qk, 3, none⟩ (.slice (some ⟨g, 0, none⟩) (n + 1) cap)) ∧ CellsN (w6.setCell ⟨qk, 3, none⟩ (.slice (some ⟨g, 0, none⟩) (n + 1) cap)) qk [c0, c1, c2, .slice (some ⟨g, 0, none⟩) (n + 1) cap] ∧ OwnI (w6.setCell ⟨qk, 3, none⟩ (.slice (some ⟨g, 0, none⟩) (n + 1) cap)) base (.slice (some ⟨g, 0, none⟩) (n + 1) cap) (R ++ [x]) := by
  have hne : ∀ k, (Value.slice A9 n c9).ownBlock = some k → k ≠ qk := fun k hk e => by have := (hO.blk k hk).1; omega
  have hf : Fr (fun k => (Value.slice A9 n c9).ownBlock = some k) wn w6 := ((Fr.refl _ wn).alloc o).trans' (Fr.of_grown hg (fun k hk => .inl hk))
  have hC6 := hC.fr hf (fun h => hne qk h rfl)
  have h0 := hC6.1 0 _ rfl
  have h1 := hC6.1 1 _ rfl
  have h2 := hC6.1 2 _ rfl
  have h3 := hC6.1 3 _ rfl
  refine ⟨(hf.weak (fun k hk => .inr hk)).set (Or.inl (Or.inl rfl)) _, ⟨fun j u hu => ?_, fun o => ?_, ?_⟩, ?_⟩
  · match j, hu with
    | 0, hu => injection hu with hu; subst hu; exact set_other h0 (by decide)
    | 1, hu => injection hu with hu; subst hu; exact set_other h1 (by decide)
    | 2, hu => injection hu with hu; subst hu; exact set_other h2 (by decide)
    | 3, hu => injection hu with hu; subst hu; exact set_this h3
  · exact set_fz hC6.2.1 o
  · have := hC6.2.2
    simpa using this
  · have hr : OwnI w6 base (.slice (some ⟨g, 0, none⟩) (n + 1) cap) (R ++ [x]) := by
      unfold OwnI encI
      rw [List.length_append, List.map_append]
      rw [hn] at hown ⊢
      exact hown
    exact (Fr.setAt (Fr.refl _ w6) _).row hr (fun k hk e => by have := (hr.blk k hk).1; omega)
set_option maxRecDepth 100000 in
theorem wp_range_N {o : Oper} {ops : Array Oper} {Q : Exit → Act → World → Prop} {rest : List Oper} {a : Act} {w : World} (hg : o.guard = none) (m : Operand) (t e : TypeId) (hop : o.op = Op.range t m) (ht : Tryz.prog.underlying t = some (.map 3 e)) (b n : Nat) (g : Int → Option Value)
    (hm : a.eval m = .map (some b)) (hown : OwnM w b n g)
    (hK : ∀ w', RngM w' b w.heap.size g [] → Fr (fun _ => False) w w' → w'.heap.size = w.heap.size + 1 → w'.rangeLeft b w.heap.size = n → wpList Tryz.prog ops Q rest (a.put o.dst (.pointer (some ⟨w.heap.size, 0, none⟩))) w') :
    wpList Tryz.prog ops Q (o :: rest) a w := by
  obtain ⟨D, h1, hs, h2⟩ := hown
  refine wpList_range_own w hg m t hop 3 e lawI ht anyElem b n D hm h1 fun w' r1 r2 r3 => hK w' ⟨n, D, _, _, r1, h2, List.nodup_nil, (fun x hx => by simp at hx), fun x hx => ?_⟩ (Fr.of_grown r2 (fun k hk => by cases hk)) r3 (r1.left_eq.trans hs)
  rw [(h2 x hx).1]
  simp
set_option maxRecDepth 100000 in
set_option maxHeartbeats 16000000 in
theorem knows_any {w : World} {X M : Nat → Prop} {base T p : Nat} {P : Int → Nat} {N : NdS} (h : NodeAt w X M base T p P N) (hT : T ≤ 100000000000) :
    Calls Tryz.prog 89 #[.pointer (some ⟨p, 0, none⟩)] w (KnowsPost N w) := by
  have HRF := Lib.hid (refs_any h)
  have HN := Lib.hid h
  have h60 := h.ok.len
  clear h
  go_enter Tryz.func89, Tryz.ntmps89
  go_wp2_with fail
  refine HRF.out.mono ?_
  rintro e w1 ⟨A1, c1, rfl, hO1, hb1⟩
  have HF1 := Lib.hid (Fr.of_below (S := fun _ => False) hb1)
  have HO1 := Lib.hid hO1
  clear hO1 hb1 HRF
  go_wp2_with fail
  have hz1 := HF1.out.size
  go_loopw [3, 5, 6, 7, 8, 10, 11, 13, 14, 15, 19] (fun v3 _ _ _ _ _ _ _ _ _ v19 wx => ∃ (i : Nat) (K : Nat → KnS) (V : Nat → Value) (A : Option Addr) (c : Nat), i ≤ N.acts.length ∧ v19 = .int .i64 (i : Int) ∧ v3 = .slice A i c ∧ Hid (KnRow wx w1.heap.size (.slice A i c) i K V) ∧ Hid (∀ j a, j < i → N.acts[j]? = some a → KnOk N a (K j)) ∧ Hid (Fr (fun _ => False) w1 wx)) (fun _ _ _ _ _ _ _ _ _ _ v19 _ => N.acts.length - (intOf v19).toNat)
  case atStart => exact ⟨0, _, _, none, 0, Nat.zero_le _, rfl, rfl, Lib.hid (KnRow.nil _ _), Lib.hid (fun j a hj => by omega), Lib.hid (Fr.refl _ _)⟩
  case round =>
    obtain ⟨wo, hwo⟩ : ∃ wo : World, wo = wr := ⟨_, rfl⟩
    subst hwo
    obtain ⟨i, K, V, A, c, hi, rfl, rfl, HKR, HKO, HFo⟩ := hrel
    by_cases hlt : i < N.acts.length
    · obtain ⟨a, ha⟩ : ∃ a, N.acts[i]? = some a := ⟨_, List.getElem?_eq_getElem hlt⟩
      have ham : a ∈ N.acts := List.mem_of_getElem? ha
      have hfind := find_of_mem HN.out.ok.srt ham
      have HNo := Lib.hid (HN.out.new (HF1.out.trans' HFo.out) (fun _ h => h))
      obtain ⟨pa, b, rb, kb, ib, MA, mb, hpa, c3, hA, hMA, hlk, -⟩ := HNo.out.act hfind
      have hl1 := hlk wo (Fr.refl _ _)
      obtain ⟨bR, offR, rfl, hbR, hcR⟩ := (HO1.out.fr HFo.out (fun _ _ h => h)).rd (by rw [refsN_len]; omega)
      have cR := hcR i (by rw [refsN_len]; exact hlt) 0 _ rfl
      have hre : lst (refsN N) i = a.ref := by
        unfold lst refsN
        rw [List.getD_eq_getElem?_getD, List.getElem?_map, ha]
        rfl
      simp only [Nat.mul_one, Nat.add_zero] at cR
      rw [hre] at cR
      have i1 : (0 : Int) ≤ (i : Int) := by omega
      have i2 : (i : Int) < (N.acts.length : Int) := by omega
      have hplt := HNo.out.p_lt
      have hpl := hA.lt.1
      obtain ⟨nk, hkn, hknT⟩ := hA.kn
      have a6 := hA.a6
      obtain ⟨Ab0, cb0, b20, hb10, hb20, hb30⟩ := hA.a2
      have HBX0 := Lib.hid (show ∀ W, Fr (fun k => wo.heap.size ≤ k) wo W → RdL W (fun k => k < wo.heap.size) Ab0 a.box.length (nthL a.box) from fun W hf => hb30.frame hf.size (fun b hb hlt => ⟨hlt, hf.block b hlt (fun h => by omega)⟩))
      have hkb := hA.lt.2
      have HKN := Lib.hid hkn
      have HKN1 := Lib.hid (hkn.fr (S := fun _ => False) ((Fr.refl _ _).alloc (.map #[] 0)) (fun h => h))
      have HMA := Lib.hid (OwnM.made wo)
      have HAG := Lib.hid hA
      have HAM := Lib.hid ham
      have HAI := Lib.hid ha
      have hmk := mkRefs' wo
      clear hb30 hcR hre hA hkn hMA hlk hpa ham ha
      go_wp2_with (first | (at_range; go_loud (refine wp_range_N rfl _ 144 4 rfl und_refs kb nk _ rfl HKN1.out ?_); intro w2 hrng hfr hsz hlf; have HRNG := Lib.hid hrng; have HFR2 := Lib.hid (((Fr.refl (fun _ => False) wo).alloc _).trans' hfr); have HMA2 := Lib.hid (HMA.out.fr hfr (fun h => h)); have HSZ2 := Lib.hid hsz; have HLF := Lib.hid hlf; clear hrng hfr hsz hlf))
      go_frame
      clear hmk
      have hrr : (wo.alloc (.map #[] 0)).heap.size = wo.heap.size + 1 := by simp
      generalize (wo.alloc (.map #[] 0)).heap.size = rr at *
      have HRR := Lib.hid hrr
      have hr1 : wo.heap.size < rr := by omega
      clear hrr
      go_loopw [8] (fun _ wx => ∃ L n2, Hid (RngM wx kb rr (knG a.knows) L) ∧ n2 ≤ L.length ∧ Hid (L.length + wx.rangeLeft kb rr ≤ nk) ∧ Hid (OwnM wx wo.heap.size n2 (knG fun x => decide (x ∈ L))) ∧ Hid (Fr (fun k => k = wo.heap.size ∨ k = rr) w2 wx)) (fun _ wx => wx.rangeLeft kb rr)
      case atStart => exact ⟨[], 0, HRNG, Nat.zero_le _, Lib.hid (by rw [HLF.out]; simp), Lib.hid (HMA2.out.congr fun x _ => by unfold knG; simp), Lib.hid (Fr.refl _ _)⟩
      case round =>
        obtain ⟨w3, hw3⟩ : ∃ w3 : World, w3 = wr := ⟨_, rfl⟩
        subst hw3
        obtain ⟨L, n2, HR, hn2, HLN, HOL, HF3⟩ := hrel
        have hrk : kb ≠ rr := by omega
        have HF03 := Lib.hid (show Fr (fun _ => False) wo w3 from HFR2.out.trans HF3.out (fun k hk => .inr (by omega)))
        have b23 := HF03.out.cell b20 (fun h => h)
        have hpl3 := Nat.lt_of_lt_of_le hpl HF03.out.size
        go_wp2_with (at_next; (refine wp_next_M rfl _ rfl kb rr (knG a.knows) L rfl HR.out ?_ ?_; rotate_left; (intro x v w5 hwx hgx hxL hR5 hlt5 hf5 hs5 hen; obtain rfl : v = .bool true := (by unfold knG at hgx; split at hgx; (· injection hgx with hgx; exact hgx.symm); (· cases hgx)); have HR5 := Lib.hid hR5; have HF5 := Lib.hid hf5; have HLT5 := Lib.hid hlt5; obtain ⟨w6, hrun, ho6, hg6⟩ := OwnM.store und_refs (HOL.out.fr hf5 (fun e => by omega)) (by have := HLN.out; unfold maxLen; omega) x (.bool true) hwx; rw [knG_put] at ho6; have HO6 := Lib.hid ho6; have HG6 := Lib.hid hg6; clear hwx hgx hR5 hf5 hlt5 hs5 ho6 hg6 hxL); rotate_left; (intro hd; have HD := Lib.hid hd; clear hd)))
        · have hkT := HLN.out
          have hnk := hknT
          clear hrk
          go_wp2_with fail
          go_loopw [10, 47] (fun _ v47 wx => ∃ q n3 : Nat, q ≤ a.box.length ∧ v47 = .int .i64 (q : Int) ∧ n3 ≤ nk + 2000 * q ∧ Hid (Fr (fun k => k = wo.heap.size) w3 wx) ∧ Hid (OwnM wx wo.heap.size n3 (knG fun x => decide (x ∈ L) || anyOf (fun i => refsV (nthL a.box i).says x) q))) (fun _ v47 _ => a.box.length - (intOf v47).toNat)
          case atStart => exact ⟨0, n2, Nat.zero_le _, rfl, by omega, Lib.hid (Fr.refl _ _), Lib.hid (HOL.out.congr fun x _ => by simp [anyOf_nil])⟩
          case round =>
            obtain ⟨w4, hw4⟩ : ∃ w4 : World, w4 = wr := ⟨_, rfl⟩
            subst hw4
            obtain ⟨q, n3, hq, rfl, hn3, HF4, HO4⟩ := hrel
            have HF04 := Lib.hid (show Fr (fun k => wo.heap.size ≤ k) wo w4 from (HF03.out.weak (fun _ h => h.elim)).trans' (HF4.out.weak (fun k hk => by omega)))
            by_cases hlt2 : q < a.box.length
            · obtain ⟨bl, ofl, rfl, hbl, hSl, CL, hCL⟩ := HBX0.out w4 HF04.out (by omega)
              obtain ⟨hyl, hyc⟩ := hCL q hlt2
              have hlw := (HNo.out.ok.act a HAM.out).box.2.2 _ (nthL_mem hlt2)
              obtain ⟨y, hy⟩ : ∃ y, nthL a.box q = y := ⟨_, rfl⟩
              rw [hy] at hyl hlw
              obtain ⟨k2, m2, s2, A2, e2, c2, hcs, hyv⟩ := hyl
              rw [hcs] at hyc
              have y0 := hyc 0 _ rfl
              have y1 := hyc 1 _ rfl
              have y2 := hyc 2 _ rfl
              have y3 := hyc 3 _ rfl
              have y4 := hyc 4 _ rfl
              have y5 := hyc 5 _ rfl
              have y6 := hyc 6 _ rfl
              have y7 := hyc 7 _ rfl
              have y8 := hyc 8 _ rfl
              rw [Nat.add_zero] at y0
              obtain ⟨W5, hW5⟩ : ∃ W5, W5 = w4.alloc (.cells #[.int .i64 y.kind, .int .i64 y.frm, .int .i64 y.to, .int .i64 y.num, .string y.text, .int .i64 k2, .int .i64 m2, .string s2, .slice A2 e2 c2] 154) := ⟨_, rfl⟩
              have hf5 : Fr (fun _ => False) w4 W5 := by rw [hW5]; exact (Fr.refl _ _).alloc _
              have hyl5 : y.isL W5 (fun k => k < wo.heap.size) [.int .i64 y.kind, .int .i64 y.frm, .int .i64 y.to, .int .i64 y.num, .string y.text, .int .i64 k2, .int .i64 m2, .string s2, .slice A2 e2 c2] := ⟨k2, m2, s2, A2, e2, c2, rfl, isV_frame hf5.size (fun b hb hlt => ⟨hb, hf5.block b hlt (fun h => h)⟩) hyv⟩
              have HSY := Lib.hid (says_any y _ _ W5 hyl5 (by have := hlw.2.2.2.2.2; omega))
              have HF5 := Lib.hid hf5
              have HW5 := Lib.hid hW5
              have HLW := Lib.hid hlw.2
              have HYE := Lib.hid hy
              have hz45 := hf5.size
              have hmA : wo.heap.size < w4.heap.size := HO4.out.lt
              have q1 : (0 : Int) ≤ (q : Int) := by omega
              have q2 : (q : Int) < (a.box.length : Int) := by omega
              clear hyc hyv hcs hCL hlw hy hf5 hyl5 hW5
              go_wp2_with fail
              rw [← HW5.out]
              refine HSY.out.mono ?_
              rintro e w5 ⟨cs5, rfl, hv5, hb5⟩
              have HF55 := Lib.hid (HF5.out.trans' (Fr.of_below (S := fun _ => False) hb5))
              have hsm := says_many y
              have HRA := Lib.hid (radd_any y.says cs5 _ wo.heap.size n3 (fun x => decide (x ∈ L) || anyOf (fun i => refsV (nthL a.box i).says x) q) w5 hv5 (says_wf HLW.out) (by have := HLW.out.2.2.2.2; omega) (fun k hk => by have h9 : W5.heap.size ≤ k := hk; omega) (HO4.out.fr HF55.out (fun h => h)) (by have := HLW.out.2.2.2.2; have := (HNo.out.ok.act a HAM.out).box.1; omega))
              have HMN := Lib.hid (show y.says.many ≤ 1003 by have := HLW.out.2.2.2.2; omega)
              clear hv5 hb5 hsm HSY
              go_wp2_with fail
              refine HRA.out.mono ?_
              rintro e w6 ⟨rfl, hf6, n6, hn6, ho6⟩
              have HF6 := Lib.hid hf6
              have HO6 := Lib.hid ho6
              have HN6 := Lib.hid (show n6 ≤ nk + 2000 * (q + 1) by have := HMN.out; omega)
              clear hf6 hn6 ho6 HRA
              go_wp2_with fail
              go_roundw
              case rel =>
                refine ⟨q + 1, n6, by omega, by go_num, HN6.out, Lib.hid ((HF4.out.trans' (HF55.out.weak (fun _ h => h.elim))).trans' HF6.out), Lib.hid (HO6.out.congr fun x _ => ?_)⟩
                unfold knG
                simp only [anyOf_up, HYE.out, Bool.or_assoc]
              case measure => simp [intOf]; omega
            · obtain rfl : q = a.box.length := by omega
              have hLk : ∀ x, Wf x → decide (x ∈ L) = a.knows x := fun x hx => by
                obtain ⟨_, _, _, _, _, _, _, h4, _⟩ := HR.out
                rcases hk : a.knows x with _ | _
                · refine decide_eq_false fun hm => ?_
                  have := (h4 x hm).2
                  unfold knG at this
                  rw [hk] at this
                  cases this
                · refine decide_eq_true (HD.out x hx ?_)
                  unfold knG
                  rw [hk]
                  rfl
              have HO5 := Lib.hid (HO4.out.congr (g' := knG fun x => a.knows x || anyOf (fun i => refsV (nthL a.box i).says x) a.box.length) fun x hx => by
                unfold knG
                simp only [hLk x hx])
              have HROW := Lib.hid (row_any HNo.out HF04.out.old a.ref)
              have hn3b : n3 ≤ nk + 2000 * 60 := by have := (HNo.out.ok.act a HAM.out).box.1; omega
              clear hLk HO4 HOL HR HD HLN HRNG HLF
              go_wp2_with fail
              refine HROW.out.mono ?_
              rintro e w5 ⟨v1, v2, rfl, hn1, hn2, hb5⟩
              have HF45 := Lib.hid (Fr.of_below (S := fun _ => False) hb5)
              have HNI := Lib.hid (And.intro hn1 hn2)
              obtain ⟨A6, c6, rfl, -⟩ := hn1
              obtain ⟨A7, c7, rfl, -⟩ := hn2
              have hRO := rowD_ok HNo.out.ok.rows.ok a.ref
              have HRW := Lib.hid (rowD_wf HNo.out.ok.rows a.ref)
              obtain ⟨r, hr⟩ : ∃ r, rowD N.rows a.ref = r := ⟨_, rfl⟩
              rw [hr] at HNI hRO HRW
              have HRE := Lib.hid hr
              have hcat : catTo (fun i => if i = 0 then r.ws else r.ls) 2 = r.ws ++ r.ls := by simp [catTo]
              obtain ⟨wq, hwq⟩ : ∃ wq, wq = w5.alloc (.cells #[.int .i64 r.ref, .slice A6 r.ws.length c6, .slice A7 r.ls.length c7] 242) := ⟨_, rfl⟩
              have hfq : Fr (fun _ => False) w5 wq := by rw [hwq]; exact (Fr.refl _ _).alloc _
              have hzq : wq.heap.size = w5.heap.size + 1 := by rw [hwq]; simp
              have hcc := concat_any (some ⟨wq.heap.size, 0, none⟩) 2 2 (fun i => if i = 0 then r.ws else r.ls) (fun _ => True) (wq.alloc (.cells #[.slice A6 r.ws.length c6, .slice A7 r.ls.length c7] 31)) (Nat.le_refl _) (by omega) (rdLs_two (HNI.out.1.fr hfq (fun _ _ h => h) (fun _ _ => trivial)) (HNI.out.2.fr hfq (fun _ _ h => h) (fun _ _ => trivial)) rfl) (by rw [hcat, List.length_append]; omega)
              rw [hcat] at hcc
              rw [hzq] at hcc
              have HCC := Lib.hid hcc
              have HWQ := Lib.hid hwq
              have HF5q := Lib.hid (HF45.out.trans' (hfq.alloc (.cells #[.slice A6 r.ws.length c6, .slice A7 r.ls.length c7] 31)))
              clear hb5 HROW hcat hcc hr hwq hfq hzq
              go_wp2_with fail
              rw [HRE.out, ← HWQ.out]
              refine HCC.out.mono ?_
              rintro e w6 ⟨v6, rfl, hO6, hb6⟩
              have HF56 := Lib.hid (HF5q.out.trans' (Fr.of_below (S := fun _ => False) hb6))
              obtain ⟨C, hC⟩ : ∃ C, r.ws ++ r.ls = C := ⟨_, rfl⟩
              have hCl : C.length ≤ 200 := by rw [← hC, List.length_append]; omega
              rw [hC] at hO6 HRW
              have HCE := Lib.hid hC
              have HO5lt := Lib.hid (show wo.heap.size < (wq.alloc (.cells #[.slice A6 r.ws.length c6, .slice A7 r.ls.length c7] 31)).heap.size from by have h1 := HO5.out.lt; have h2 := HF5q.out.size; omega)
              obtain ⟨A8, c8, rfl, -, -, -⟩ := own_any hO6
              have HO6 := Lib.hid hO6
              have HOM6 := Lib.hid (HO5.out.fr HF56.out (fun h => h))
              clear hO6 hb6 HCC hC HO5
              go_wp2_with fail
              go_loopw [13, 66] (fun _ v66 wx => ∃ q n7 : Nat, q ≤ C.length ∧ v66 = .int .i64 (q : Int) ∧ n7 ≤ n3 + q ∧ Hid (Fr (fun k => k = wo.heap.size) w6 wx) ∧ Hid (OwnM wx wo.heap.size n7 (knG fun x => (a.knows x || anyOf (fun i => refsV (nthL a.box i).says x) a.box.length) || decide (x ∈ C.take q)))) (fun _ v66 _ => C.length - (intOf v66).toNat)
              case atStart => exact ⟨0, n3, Nat.zero_le _, rfl, by omega, Lib.hid (Fr.refl _ _), Lib.hid (HOM6.out.congr fun x _ => by unfold knG; simp)⟩
              case round =>
                obtain ⟨w7, hw7⟩ : ∃ w7 : World, w7 = wr := ⟨_, rfl⟩
                subst hw7
                obtain ⟨q, n7, hq, rfl, hn7, HF7, HO7⟩ := hrel
                by_cases hlt3 : q < C.length
                · have hown7 := HO6.out.fr HF7.out (fun k hk e => by have := (HO6.out.blk k hk).1; have := HO5lt.out; omega)
                  obtain ⟨bC, offC, rfl, hbC, hcC⟩ := hown7.rd (by omega)
                  have cC := hcC q hlt3 0 _ rfl
                  simp only [Nat.mul_one, Nat.add_zero] at cC
                  have hxC : lst C q ∈ C := by
                    unfold lst
                    rw [List.getD_eq_getElem?_getD, List.getElem?_eq_getElem hlt3]
                    exact List.getElem_mem _
                  have htk : C.take (q + 1) = C.take q ++ [lst C q] := by
                    unfold lst
                    rw [List.take_add_one, List.getD_eq_getElem?_getD, List.getElem?_eq_getElem hlt3]
                    rfl
                  obtain ⟨y, hy⟩ : ∃ y, lst C q = y := ⟨_, rfl⟩
                  rw [hy] at cC hxC htk
                  obtain ⟨w8, hrun, ho8, hg8⟩ := OwnM.store und_refs HO7.out (by unfold maxLen; omega) y (.bool true) (HRW.out y hxC)
                  rw [knG_put] at ho8
                  have HO8 := Lib.hid ho8
                  have HG8 := Lib.hid hg8
                  have HTK := Lib.hid htk
                  have q1 : (0 : Int) ≤ (q : Int) := by omega
                  have q2 : (q : Int) < (C.length : Int) := by omega
                  clear hown7 hcC ho8 hg8 htk hxC hy
                  go_wp2_with fail
                  go_roundw
                  case rel =>
                    refine ⟨q + 1, _, by omega, by go_num, ?_, Lib.hid (HF7.out.trans' (Fr.of_grown HG8.out (fun k hk => .inl (by injection hk with hk; exact hk.symm)))), Lib.hid (HO8.out.congr fun x _ => ?_)⟩
                    · split <;> omega
                    · unfold knG
                      rw [HTK.out]
                      simp [Bool.or_assoc]
                  case measure => simp [intOf]; omega
                · obtain rfl : q = C.length := by omega
                  have HK7 := Lib.hid (HO7.out.congr (g' := knG fun x => knowB N a x) fun x _ => by
                    unfold knG knowB
                    rw [HRE.out, HCE.out, List.take_length])
                  have HF07 := Lib.hid ((HF04.out.trans' (HF56.out.weak (fun _ h => h.elim))).trans' (HF7.out.weak (S2 := fun k => wo.heap.size ≤ k) (fun k hk => by omega))).old
                  have hA7 := HAG.out.fr (X' := X) HF07.out (fun _ h => h.elim) (fun k hk => .inl hk) (fun _ h => h.elim) (Nat.le_refl _) (fun _ _ h => h)
                  have HCAN := Lib.hid ((can_any X base T MA pa b rb kb ib a w7 hA7).mono (R' := fun e w' => e = .returned (.bool (canA a)) ∧ Fr (fun _ => False) w7 w') fun e w' hh => ⟨hh.1, by obtain ⟨_, q, hq⟩ := hh; rw [hq]; exact (Fr.refl _ _).drewN _⟩)
                  have a4 := hA7.a4
                  have a5 := hA7.a5
                  have a2 := HF07.out.cell b20 (fun h => h)
                  have hpl7 := hA7.lt.1
                  have hn7b : n7 ≤ nk + 2000 * 60 + 200 := by omega
                  clear hA7 HO7
                  go_upto_region 22 with (fail)
                  go_cut [14, 45, 46, 47] (fun v14 _ _ _ wx => ∃ qk, v14 = .pointer (some ⟨qk, 0, none⟩) ∧ CellsN wx qk [.int .i64 a.ref, .bool (awakeA a), .bool false, .slice none 0 0] ∧ Hid (Fr (fun _ => False) w7 wx) ∧ w7.heap.size ≤ qk)
                  case first =>
                    have HAW := Lib.hid (show awakeA a = (canA a || decide (0 < a.box.length) || (a.waits && decide (0 ≤ a.ticks))) from rfl)
                    rcases hc : canA a with _ | _
                    · rw [hc] at HCAN HAW
                      go_wp2_with fail
                      refine HCAN.out.mono ?_
                      rintro e w8 ⟨rfl, hf8⟩
                      have HF8 := Lib.hid hf8
                      have d2 := hf8.cell a2 (fun h => h)
                      have d4 := hf8.cell a4 (fun h => h)
                      have d5 := hf8.cell a5 (fun h => h)
                      have hpl8 := Nat.lt_of_lt_of_le hpl7 hf8.size
                      clear hf8 a2 a4 a5
                      by_cases hbl : 0 < a.box.length
                      · have e1 : decide ((0 : Int) < (a.box.length : Int)) = true := decide_eq_true (by omega)
                        rw [decide_eq_true hbl] at HAW
                        go_wp2_with fail
                        go_meet
                        refine ⟨w8.heap.size, rfl, ?_, Lib.hid (HF8.out.alloc _), HF8.out.size⟩
                        rw [HAW.out]
                        exact cellsN_new w8 [_, _, _, _] _
                      · have e1 : decide ((0 : Int) < (a.box.length : Int)) = false := decide_eq_false (by omega)
                        rw [decide_eq_false hbl] at HAW
                        rcases hw : a.waits with _ | _
                        · rw [hw] at d4 HAW
                          clear hw
                          go_wp2_with fail
                          go_meet
                          refine ⟨w8.heap.size, rfl, ?_, Lib.hid (HF8.out.alloc _), HF8.out.size⟩
                          rw [HAW.out]
                          exact cellsN_new w8 [_, _, _, _] _
                        · rw [hw] at d4 HAW
                          clear hw
                          by_cases htk : 0 ≤ a.ticks
                          · have e2 : decide ((0 : Int) ≤ a.ticks) = true := decide_eq_true htk
                            rw [e2] at HAW
                            clear htk
                            go_wp2_with fail
                            go_meet
                            refine ⟨w8.heap.size, rfl, ?_, Lib.hid (HF8.out.alloc _), HF8.out.size⟩
                            rw [HAW.out]
                            exact cellsN_new w8 [_, _, _, _] _
                          · have e2 : decide ((0 : Int) ≤ a.ticks) = false := decide_eq_false htk
                            rw [e2] at HAW
                            clear htk
                            go_wp2_with fail
                            go_meet
                            refine ⟨w8.heap.size, rfl, ?_, Lib.hid (HF8.out.alloc _), HF8.out.size⟩
                            rw [HAW.out]
                            exact cellsN_new w8 [_, _, _, _] _
                    · rw [hc] at HCAN HAW
                      go_wp2_with fail
                      refine HCAN.out.mono ?_
                      rintro e w8 ⟨rfl, hf8⟩
                      have HF8 := Lib.hid hf8
                      clear hf8
                      go_wp2_with fail
                      go_meet
                      refine ⟨w8.heap.size, rfl, ?_, Lib.hid (HF8.out.alloc _), HF8.out.size⟩
                      rw [HAW.out]
                      exact cellsN_new w8 [_, _, _, _] _
                  case rest =>
                    obtain ⟨qk, rfl, hKC, HFc, hqk⟩ := hcut
                    have HKC := Lib.hid hKC
                    have HK8 := Lib.hid (HK7.out.fr HFc.out (fun h => h))
                    have hmA8 := HK8.out.lt
                    have hqlt := hKC.2.2
                    have hmq : wo.heap.size ≠ qk := by have := HK7.out.lt; omega
                    have HF08 := Lib.hid (HF07.out.trans' HFc.out)
                    clear hKC HCAN a2 a4 a5 b23 HO6 HOM6 HRW HBX0
                    go_wp2_with (first | (at_range; go_loud (refine wp_range_N rfl _ 144 4 rfl und_refs wo.heap.size n7 _ rfl HK8.out ?_); intro w9 hrng hfr hsz hlf; have HRNG9 := Lib.hid hrng; have HFR9 := Lib.hid hfr; have HSZ9 := Lib.hid hsz; have HLF9 := Lib.hid hlf; clear hrng hfr hsz hlf))
                    go_frame
                    have hmr : wo.heap.size ≠ wc.heap.size := by omega
                    have hqr : qk ≠ wc.heap.size := by omega
                    go_loopw [15] (fun _ wx => ∃ L2 R A9 c9, Hid (RngM wx wo.heap.size wc.heap.size (knG fun x => knowB N a x) L2) ∧ Hid (L2.length + wx.rangeLeft wo.heap.size wc.heap.size ≤ n7) ∧ R.length ≤ L2.length ∧ Hid (CellsN wx qk [.int .i64 a.ref, .bool (awakeA a), .bool false, .slice A9 R.length c9]) ∧ Hid (OwnI wx w9.heap.size (.slice A9 R.length c9) R) ∧ Hid (∀ x, x ∈ R ↔ x ∈ L2 ∧ x ≠ 0 ∧ x ≠ a.ref) ∧ Hid R.Nodup ∧ Hid (Fr (fun k => k = qk ∨ k = wc.heap.size) w9 wx)) (fun _ wx => wx.rangeLeft wo.heap.size wc.heap.size)
                    case atStart => exact ⟨[], [], none, 0, HRNG9, Lib.hid (by rw [HLF9.out]; simp), Nat.le_refl _, Lib.hid (HKC.out.fr HFR9.out (fun h => h)), Lib.hid (OwnI.nil _ _), Lib.hid (fun x => by simp), Lib.hid List.nodup_nil, Lib.hid (Fr.refl _ _)⟩
                    case round =>
                      obtain ⟨wd, hwd⟩ : ∃ wd : World, wd = wr := ⟨_, rfl⟩
                      subst hwd
                      obtain ⟨L2, R, A9, c9, HR9, HLN9, hRL, HC9, HO9, HRM, HRN, HF9⟩ := hrel
                      have hz9 := HF9.out.size
                      have hs9 := HSZ9.out
                      have hq9 : qk < w9.heap.size := by omega
                      have hm9 : wo.heap.size < w9.heap.size := by omega
                      have hw9 : wc.heap.size < w9.heap.size := by omega
                      clear hs9
                      have k0 := HC9.out.1 0 _ rfl
                      have k1 := HC9.out.1 1 _ rfl
                      have k2 := HC9.out.1 2 _ rfl
                      have k3 := HC9.out.1 3 _ rfl
                      have kq := HC9.out.2.2
                      obtain ⟨i0, hi0, jz0, jz1, jz2⟩ := info_parts infoI
                      have hRb : R.length ≤ 1000000000000 := by have := HLN9.out; omega
                      go_wp2_with (first
                        | (at_next; go_loud (refine wp_next_M rfl _ rfl wo.heap.size wc.heap.size (knG fun x => knowB N a x) L2 rfl HR9.out ?_ ?_; rotate_left; (intro x v wn hwx hgx hxL hRn hltn hfn hsn hen; obtain rfl : v = .bool true := (by unfold knG at hgx; split at hgx; (· injection hgx with hgx; exact hgx.symm); (· cases hgx)); have HRn := Lib.hid hRn; have HFn := Lib.hid hfn; have HLTn := Lib.hid hltn; have HXL := Lib.hid hxL; have HCn := Lib.hid (HC9.out.fr hfn hqr); have n0 := HCn.out.1 0 _ rfl; have n3' := HCn.out.1 3 _ rfl; have nf := HCn.out.2.1; have hqn := HCn.out.2.2; have HOn := Lib.hid (show OwnI wn w9.heap.size (.slice A9 R.length c9) R from hfn.row HO9.out (fun k hk e => by have := (HO9.out.blk k hk).1; omega)); clear hwx hgx hRn hfn hltn hsn hxL; obtain ⟨bx, hbx⟩ : ∃ bx, (x != 0) = bx := ⟨_, rfl⟩; obtain ⟨bz, hbz⟩ : ∃ bz, (x != a.ref) = bz := ⟨_, rfl⟩); rotate_left; (intro hd; have HD9 := Lib.hid hd; clear hd)))
                        | (at_builtin; go_loud (refine wpList_append_lies _ rfl _ _ 31 rfl w9.heap.size 3 i0 (.int .i64 0) 1 8 Tryz.underlying31 hi0 jz0 jz1 jz2 rfl (by decide) (.slice A9 R.length c9) R.length (encI R) rfl (HOn.out.alloc _) ⟨wn.heap.size, 0, none⟩ 1 1 [.int .i64 x] rfl rfl (cell_newL _ _ _ _ rfl) (fun u hu => (by simp at hu; subst hu; rfl)) (by omega) (by unfold maxLen; omega) (by omega) (by simp; have := HFn.out.size; omega) (wn.heap.size + 1) (by simp) ?_; intro g cap w6' hown6 hgrow6 hat6 hlt6; have HO6' := Lib.hid hown6; have HG6' := Lib.hid hgrow6; have HA6' := Lib.hid hat6; have hneb : some qk ≠ (Value.slice A9 R.length c9).ownBlock := (fun e => by have := (HOn.out.blk qk e.symm).1; omega); have x3 := (grown_cell (b := qk) (o := 3) hgrow6 (by simp; omega) hneb).trans ((World.cell?_alloc_lt _ _ ⟨qk, 3, none⟩ hqn).trans n3'); have xf := (grown_frozen (b := qk) (o := 3) hgrow6 (by simp; omega) hneb).trans ((grown_frozen (b := qk) (o := 3) (World.grownBy_alloc wn _ none) hqn (by simp)).trans (nf 3)); clear hown6 hgrow6 hat6)))
                      · refine (sortI_own _ _ R _ HO9.out (by omega)).mono ?_
                        rintro e w10 ⟨rfl, hO10, hg10⟩
                        have hfd : Fr (fun k => w9.heap.size ≤ k) wd w10 := Fr.of_grown hg10 (fun k hk => .inl (HO9.out.blk k hk).1)
                        have hkr := HKR.out.row.lt
                        have HF010 := Lib.hid (show Fr (fun _ => False) wo w10 from by
                          have g1 : Fr (fun k => wo.heap.size ≤ k) wo w9 := (HF08.out.trans' HFR9.out).weak (fun _ h => h.elim)
                          have g0 := HF07.out.size
                          have g00 := HFc.out.size
                          have g2 : Fr (fun k => wo.heap.size ≤ k) w9 w10 := (HF9.out.weak (S2 := fun k => wo.heap.size ≤ k) (fun k hk => by show wo.heap.size ≤ k; omega)).trans' (hfd.weak (fun k hk => by have h9 : w9.heap.size ≤ k := hk; show wo.heap.size ≤ k; omega))
                          exact (g1.trans' g2).old)
                        have HC10 := Lib.hid (HC9.out.fr hfd (fun h => by have h9 : w9.heap.size ≤ qk := h; omega))
                        have HO10 := Lib.hid hO10
                        have HKR10 := Lib.hid (HKR.out.new HF010.out)
                        have z0 := HC10.out.1 0 _ rfl
                        have z1 := HC10.out.1 1 _ rfl
                        have z2 := HC10.out.1 2 _ rfl
                        have z3 := HC10.out.1 3 _ rfl
                        have zq := HC10.out.2.2
                        have HU := Lib.hid (show ∀ b, (Value.slice A9 R.length c9).ownBlock = some b → (Value.slice A i c).ownBlock ≠ some b from fun b hb e => by have h1 := (hO10.blk b hb).1; have h2 := (hkr b e).2; omega)
                        have hzw : w1.heap.size ≤ w10.heap.size := by have := HFo.out.size; have := HF010.out.size; omega
                        have hzw9 : w1.heap.size ≤ w9.heap.size := by have := HFo.out.size; omega
                        obtain ⟨j0, hj0, kz0, kz1, kz2⟩ := info_parts infoKn
                        clear hO10 hg10 hfd hkr k0 k1 k2 k3
                        go_wp2_with (at_builtin; go_loud (refine wpList_append_lies _ rfl _ _ 113 rfl w1.heap.size 119 j0 _ 4 40 Tryz.underlying113 hj0 kz0 kz1 kz2 rfl (by omega) (.slice A i c) i (flatC (knC K V) i) rfl (HKR10.out.row.alloc _) ⟨w10.heap.size, 0, none⟩ 1 1 [.int .i64 a.ref, .bool (awakeA a), .bool false, .slice A9 R.length c9] rfl rfl (cell_newL _ _ _ _ rfl) (fun u hu => (by simp at hu; rcases hu with rfl | rfl | rfl | rfl <;> rfl)) (by omega) (by unfold maxLen; omega) (by omega) (by simp; omega) (w10.heap.size + 1) (by simp) ?_; intro g cap w11 hown11 hgrow11 hat11 hlt11; have HO11 := Lib.hid hown11; have HG11 := Lib.hid hgrow11; have HA11 := Lib.hid hat11; clear hown11 hgrow11 hat11))
                        refine ⟨⟨i + 1, upK K i ⟨a.ref, awakeA a, srt R⟩, upV V i (.slice A9 R.length c9), some ⟨g, 0, none⟩, cap, by omega, by go_num, rfl, Lib.hid ?_, Lib.hid ?_, Lib.hid ?_⟩, ?_⟩
                        · refine KnRow.snoc (k := ⟨a.ref, awakeA a, srt R⟩) HKR10.out HG11.out HO11.out (HO10.out.mono hzw9) HU.out ?_
                          rcases HA11.out with h | h
                          · exact .inl h.symm
                          · exact .inr ⟨g, rfl, by omega⟩
                        · intro j b hj hb
                          by_cases e : j = i
                          · subst e
                            have hba : b = a := by
                              have := HAI.out
                              rw [hb] at this
                              injection this
                            subst hba
                            unfold upK
                            rw [if_pos rfl]
                            refine ⟨rfl, rfl, ?_, fun x hx => ?_, fun x hx => ?_, (by show (srt R).length ≤ _; rw [(srt_perm R).length_eq]; exact hRb)⟩
                            · have hnd : (srt R).Nodup := (srt_perm R).nodup_iff.2 HRN.out
                              exact (List.pairwise_and_iff.2 ⟨srt_pairwise R, hnd⟩).imp (by intro a b h; have h1 := h.1; have h2 := h.2; omega)
                            · rw [(srt_perm R).mem_iff, HRM.out x]
                              refine and_congr_left fun _ => ⟨fun hm => ?_, fun hk => ?_⟩
                              · obtain ⟨_, _, _, _, _, _, _, h4, _⟩ := HR9.out
                                have := (h4 x hm).2
                                unfold knG at this
                                by_cases hk : knowB N b x = true
                                · exact hk
                                · rw [if_neg hk] at this
                                  cases this
                              · refine HD9.out x hx ?_
                                unfold knG
                                rw [if_pos hk]
                                rfl
                            · have hm := (HRM.out x).1 ((srt_perm R).mem_iff.1 hx)
                              obtain ⟨_, _, _, _, _, _, _, h4, _⟩ := HR9.out
                              exact (h4 x hm.1).1
                          · unfold upK
                            rw [if_neg e]
                            exact HKO.out j b (by omega) hb
                        · refine HFo.out.trans (S2 := fun k => w1.heap.size ≤ k) ?_ (fun k hk => .inr hk)
                          exact (HF010.out.weak (fun _ h => h.elim)).trans' (((Fr.refl _ w10).alloc _).trans' (Fr.of_grown HG11.out (fun k hk => .inl ((HKR.out.row.lt k hk).1))))
                        · simp [intOf]; omega
                      all_goals
                        have hlt9 := HLTn.out
                        have hlen9 := HLN9.out
                        have hl1 : (L2 ++ [x]).length = L2.length + 1 := by simp
                        first
                          | (have hkk := kn_keep rfl HCn.out HOn.out hq9 HO6'.out HG6'.out
                             have hR2 := HRn.out.fr hkk.1 (fun h => by rcases h with h | h; exact hmq h; exact absurd (HOn.out.blk _ h).1 (by omega)) (fun h => by rcases h with h | h; exact hqr h.symm; exact absurd (HOn.out.blk _ h).1 (by omega))
                             have hl2 : (R ++ [x]).length = R.length + 1 := by simp
                             rename_i hA hB
                             have hx0 : x ≠ 0 := by rw [hA] at hbx; simpa using hbx
                             have hxr : x ≠ a.ref := by rw [hB] at hbz; simpa using hbz
                             refine ⟨⟨L2 ++ [x], R ++ [x], some ⟨g, 0, none⟩, cap, Lib.hid hR2.1, Lib.hid ?_, ?_, ?_, ?_, Lib.hid ?_, Lib.hid ?_, Lib.hid ?_⟩, ?_⟩
                             · rw [hl1, hR2.2]; omega
                             · rw [hl1, hl2]; omega
                             · rw [hl2]; exact Lib.hid hkk.2.1
                             · rw [hl2]; exact Lib.hid hkk.2.2
                             · intro y
                               rw [List.mem_append, List.mem_append, List.mem_singleton, HRM.out y]
                               constructor
                               · rintro (h | rfl)
                                 · exact ⟨.inl h.1, h.2⟩
                                 · exact ⟨.inr rfl, hx0, hxr⟩
                               · rintro ⟨h | h, h2⟩
                                 · exact .inl ⟨h, h2⟩
                                 · exact .inr h
                             · rw [List.nodup_append]
                               refine ⟨HRN.out, by simp, fun c hc d hd e => ?_⟩
                               rw [List.mem_singleton] at hd
                               exact HXL.out (by rw [← hd, ← e]; exact ((HRM.out c).1 hc).1)
                             · exact (HF9.out.trans' (HFn.out.weak (fun k hk => .inr hk))).trans hkk.1 (fun k hk => by
                                rcases hk with hk | hk
                                · exact .inl (.inl hk)
                                · exact .inr (HOn.out.blk _ hk).1)
                             · rw [hR2.2]; exact hlt9)
                          | (have hskip : ¬ (x ≠ 0 ∧ x ≠ a.ref) := fun h => by
                               have e1 : bx = true := by rw [← hbx]; simpa using h.1
                               have e2 : bz = true := by rw [← hbz]; simpa using h.2
                               simp_all
                             refine ⟨⟨L2 ++ [x], R, A9, c9, HRn, Lib.hid ?_, ?_, HCn, HOn, Lib.hid ?_, HRN, Lib.hid ?_⟩, ?_⟩
                             · rw [hl1]; omega
                             · rw [hl1]; omega
                             · intro y
                               rw [HRM.out y, List.mem_append, List.mem_singleton]
                               constructor
                               · rintro ⟨h, h2⟩
                                 exact ⟨.inl h, h2⟩
                               · rintro ⟨h | h, h2⟩
                                 · exact ⟨h, h2⟩
                                 · rw [h] at h2
                                   exact absurd h2 hskip
                             · exact HF9.out.trans' (HFn.out.weak (fun k hk => .inr hk))
                             · exact hlt9)
        · go_roundw
          case rel =>
            have hk6 := HR5.out.fr (Fr.of_grown (S := fun k => k = wo.heap.size) HG6.out (fun k hk => .inl (by injection hk with hk; exact hk.symm))) (fun e => by have := HKN.out.lt; omega) (by omega)
            refine ⟨L ++ [x], _, Lib.hid hk6.1, ?_, Lib.hid ?_, Lib.hid (HO6.out.congr fun y _ => by unfold knG; simp), Lib.hid ?_⟩
            · rw [List.length_append]
              show _ ≤ L.length + 1
              split <;> omega
            · rw [List.length_append, hk6.2]
              have h1 := HLN.out
              have h2 := HLT5.out
              show L.length + 1 + _ ≤ _
              omega
            · exact (HF3.out.trans' (HF5.out.weak (fun k hk => .inr hk))).trans' (Fr.of_grown HG6.out (fun k hk => .inl (.inl (by injection hk with hk; exact hk.symm))))
          case measure =>
            have hk6 := HR5.out.fr (Fr.of_grown (S := fun k => k = wo.heap.size) HG6.out (fun k hk => .inl (by injection hk with hk; exact hk.symm))) (fun e => by have := HKN.out.lt; omega) (by omega)
            show w6.rangeLeft kb rr < w3.rangeLeft kb rr
            rw [hk6.2]
            exact HLT5.out
    · obtain rfl : i = N.acts.length := by omega
      go_wp2_with fail
      go_ret
      exact ⟨A, c, K, V, rfl, HKR.out.mono hz1, fun i a ha => HKO.out i a (by
        have := (List.getElem?_eq_some_iff.1 ha).1
        omega) ha, (HF1.out.trans' HFo.out).below (fun _ h => h.elim) (Nat.le_refl _)⟩
end Go.Proofs.YthgbcgphkddmgaaGreat
