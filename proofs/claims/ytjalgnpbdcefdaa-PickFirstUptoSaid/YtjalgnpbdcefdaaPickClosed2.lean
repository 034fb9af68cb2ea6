/- roadkeep3.closed. -/
import Derived.Test.YtjalgnpbdcefdaaPickClosed
import Derived.Deep.DeepCutAuto
import Derived.Deep.RegionLaw
import Derived.BigRegion
namespace Go.Proofs.Ytjalgnpbdcefdaa
open Go.RowKit
set_option linter.unusedVariables false
theorem infoP : (Try.prog.info? 24).map (fun i => (i.zero, i.size, i.bytes)) = some (some (.agg #[.int .i64 0, .int .i64 0, .string ⟨#[]⟩, .slice none 0 0]), 4, 56) := by kernel_rfl
theorem sizeV4 (w : World) : (sizeOf (Try.prog.elem 25)).run Try.prog w = .ok 4 w := by kernel_rfl
theorem elemV4 : Try.prog.underlying 25 = some (.slice (Try.prog.elem 25)) := by kernel_rfl
/-- the rest of a slice of values, from 1 on -/
theorem cut_one (A : Option Addr) (n c : Nat) (h : 1 ≤ n) (hc : n ≤ c) (hA : A = none → n = 0) : ∃ XA, (∀ w, (Instr.sliceAt 25 (.slice A n c) (some (.int .i64 1)) none none).run Try.prog w = .ok (.slice XA (n - 1) (c - 1)) w) ∧ (XA = none → n - 1 = 0) := by
  cases A with
  | none => have := hA rfl; omega
  | some a =>
    obtain ⟨b, off, sp⟩ := a
    refine ⟨if c = 1 then some ⟨b, off, sp⟩ else some ((⟨b, off, sp⟩ : Addr).add 4), fun w => ?_, fun h => by split at h <;> cases h⟩
    rw [run_sliceAt_slice _ _ _ _ _ _ elemV4, show (1 : Int) = ((1 : Nat) : Int) from rfl, run_slice_l _ _ _ _ _ elemV4 _ _ (by omega) (by omega), sizeV4]
    simp only [Result.andThen, sliced, Int.toNat_natCast, Nat.one_mul, Option.map]
def ClosedPost (p : VT) (n : Nat) (S : Nat → Prop) (w : World) (e : Ending) (w' : World) : Prop :=
  ∃ cs A c, e = .returned (.tuple #[.agg cs.toArray, .slice A (n - p.names) c, .bool true]) ∧ (closedP p).isV w' (fun b => S b ∨ w.heap.size ≤ b) cs ∧ n - p.names ≤ c ∧ c ≤ 9223372036854775807 ∧ (A = Option.none → n - p.names = 0) ∧ Below w.heap.size w w'
def ClosedOk (p : VT) : Prop := ∀ (cs : List Value) (S : Nat → Prop) (A : Option Addr) (n c : Nat) (w : World), p.isV w S cs → p.many ≤ 4194304 → p.names ≤ n → n ≤ c → c ≤ 9223372036854775807 → (A = Option.none → n = 0) →
  Calls Try.prog 11 #[.agg cs.toArray, .slice A n c] w (ClosedPost p n S w)
theorem cell_four_one (w : World) (o : Obj) (a b c d : Value) (t : TypeId) : ∀ j u, [a, b, c, d][j]? = some u → ((w.alloc o).alloc (.cells #[a, b, c, d] t)).cell? ((⟨w.heap.size + 1, 0, none⟩ : Addr).add j) = some u := by
  intro j u hu
  have := cell_four_new (w.alloc o) a b c d t j u hu
  simpa using this
/-- a row of the call's own whose elements hold the patterns arg, in blocks of S0 (all older than base) or of their own -/
structure PRow (w : World) (base : Nat) (v : Value) (n : Nat) (C : Nat → List Value) (arg : Nat → VT) (S0 : Nat → Prop) : Prop where
  row : w.ownsRow base 24 4 v n (flatC C n)
  len : ∀ i, (C i).length = 4
  each : ∀ i, i < n → (arg i).isV w (fun b => S0 b ∨ (base ≤ b ∧ some b ≠ v.ownBlock)) (C i)
theorem PRow.grown {w w' : World} {base n : Nat} {v : Value} {C : Nat → List Value} {arg : Nat → VT} {S0 : Nat → Prop} {row : Option Nat} (h : PRow w base v n C arg S0) (hg : w.grownBy w' row) (hr : ∀ k, row = some k → k < base ∧ ¬ S0 k) : PRow w' base v n C arg S0 :=
  ⟨own_grown h.row hg (fun k hk e => by have := (hr k e).1; have := (h.row.lt k hk).1; omega), h.len, fun i hi => isV_grown (h.each i hi) hg (fun b hb _ => ⟨fun e => by
    have := hr b e.symm
    rcases hb with h | h
    · exact this.2 h
    · omega, hb⟩)⟩
theorem PRow.snoc {w w' : World} {base n : Nat} {v v' : Value} {C : Nat → List Value} {arg : Nat → VT} {S0 : Nat → Prop} (h : PRow w base v n C arg S0) (hS : ∀ b, S0 b → b < base) (cs : List Value) (hcs : cs.length = 4) (hg : w.grownBy w' v.ownBlock)
    (hO : w'.ownsRow base 24 4 v' (n + 1) (flatC C n ++ cs)) (hat : v'.ownBlock = v.ownBlock ∨ v'.ownBlock = some w.heap.size) (ht : (arg n).isV w (fun b => S0 b ∨ (base ≤ b ∧ some b ≠ v.ownBlock)) cs) : PRow w' base v' (n + 1) (updC C n cs) arg S0 := by
  have hne : ∀ b, b < w.heap.size → some b ≠ v.ownBlock → some b ≠ v'.ownBlock := fun b hb hn => by
    rcases hat with e | e
    · rw [e]; exact hn
    · rw [e]; intro h; injection h with h; omega
  have hno : ∀ b, S0 b → some b ≠ v.ownBlock := fun b hb e => by have h1 := (h.row.lt b e.symm).1; have h2 := hS b hb; omega
  have fr : ∀ b, (S0 b ∨ (base ≤ b ∧ some b ≠ v.ownBlock)) → b < w.heap.size → some b ≠ v.ownBlock ∧ (S0 b ∨ (base ≤ b ∧ some b ≠ v'.ownBlock)) := fun b hb hl => by
    rcases hb with h1 | h1
    · exact ⟨hno b h1, .inl h1⟩
    · exact ⟨h1.2, .inr ⟨h1.1, hne b hl h1.2⟩⟩
  have flatA : flatC C n ++ cs = flatC (updC C n cs) (n + 1) := by
    rw [flatC]
    congr 1
    · apply flatC_congr
      intro i hi
      have : i ≠ n := by omega
      simp [updC, this]
    · simp [updC]
  refine ⟨?_, fun i => ?_, fun i hi => ?_⟩
  · rw [flatA] at hO
    exact hO
  · unfold updC; split
    · exact hcs
    · exact h.len i
  · by_cases e : i = n
    · subst e
      simp only [updC, if_true]
      exact isV_grown ht hg fr
    · simp only [updC, e, if_false]
      exact isV_grown (h.each i (by omega)) hg fr
theorem PRow.isV {w : World} {base n c : Nat} {A : Option Addr} {C : Nat → List Value} {arg : Nat → VT} {S0 S' : Nat → Prop} (h : PRow w base (.slice A n c) n C arg S0) (k m : Int) (s : ByteArray) (hS : ∀ b, S0 b ∨ base ≤ b → S' b) :
    (VT.node k m s n arg).isV w S' [.int .i64 k, .int .i64 m, .string s, .slice A n c] := by
  obtain ⟨A', c', hv', hnc, hcm, hA⟩ := own_any h.row
  injection hv' with e1 e2 e3
  subst e1 e3
  refine ⟨A, c, rfl, hnc, hcm, hA, fun h0 => ?_⟩
  obtain ⟨g, cap, hv2, hb, hlt, _⟩ := own_form h.row h0
  injection hv2 with e1 _ e3
  subst e1 e3
  refine ⟨g, 0, rfl, hlt, hS g (.inr hb), C, fun i hi => ⟨isV_mono (h.each i hi) (fun b _ hb => hS b (by rcases hb with h | h; exact .inl h; exact .inr h.1)), fun j u hu => ?_⟩⟩
  have hj : j < 4 := by
    rcases Nat.lt_or_ge j 4 with hh | hh
    · exact hh
    · rw [List.getElem?_eq_none (by rw [h.len]; exact hh)] at hu; cases hu
  rw [Nat.zero_add, own_cellC h.row h.len hi hj]
  exact hu
/-- the boxes of closed: the answer, still zero, and the pattern that grows -/
structure KQ (wx : World) (b : Nat) (v : Value) (ps : ByteArray) : Prop where
  y0 : wx.cell? ⟨b + 1, 0, none⟩ = some (.int .i64 0)
  y1 : wx.cell? ⟨b + 1, 1, none⟩ = some (.int .i64 0)
  y2 : wx.cell? ⟨b + 1, 2, none⟩ = some (.string ⟨#[]⟩)
  y3 : wx.cell? ⟨b + 1, 3, none⟩ = some (.slice none 0 0)
  yf : ∀ o, wx.frozen? ⟨b + 1, o, none⟩ = false
  q0 : wx.cell? ⟨b + 2, 0, none⟩ = some (.int .i64 6)
  q1 : wx.cell? ⟨b + 2, 1, none⟩ = some (.int .i64 0)
  q2 : wx.cell? ⟨b + 2, 2, none⟩ = some (.string ps)
  q3 : wx.cell? ⟨b + 2, 3, none⟩ = some v
  qf : ∀ o, wx.frozen? ⟨b + 2, o, none⟩ = false
  sz : b + 2 < wx.heap.size
theorem KQ.grown {wx wy : World} {b : Nat} {v : Value} {ps : ByteArray} {row : Option Nat} (h : KQ wx b v ps) (hg : wx.grownBy wy row) (hr : ∀ k, row = some k → b + 3 ≤ k) : KQ wy b v ps := by
  have hz := h.sz
  have k0 : ∀ j o, j < 3 → wy.cell? ⟨b + j, o, none⟩ = wx.cell? ⟨b + j, o, none⟩ := fun j o hj => grown_cell hg (by omega) (fun e => by have := hr _ e.symm; omega)
  have k1 : ∀ j o, j < 3 → wy.frozen? ⟨b + j, o, none⟩ = wx.frozen? ⟨b + j, o, none⟩ := fun j o hj => grown_frozen hg (by omega) (fun e => by have := hr _ e.symm; omega)
  exact ⟨(k0 1 0 (by omega)).trans h.y0, (k0 1 1 (by omega)).trans h.y1, (k0 1 2 (by omega)).trans h.y2, (k0 1 3 (by omega)).trans h.y3, fun o => (k1 1 o (by omega)).trans (h.yf o),
    (k0 2 0 (by omega)).trans h.q0, (k0 2 1 (by omega)).trans h.q1, (k0 2 2 (by omega)).trans h.q2, (k0 2 3 (by omega)).trans h.q3, fun o => (k1 2 o (by omega)).trans (h.qf o), by have := hg.size; omega⟩
theorem KQ.set {wx : World} {b : Nat} {v : Value} {ps : ByteArray} (h : KQ wx b v ps) (v' : Value) : KQ (wx.setCell ⟨b + 2, 3, none⟩ v') b v' ps := by
  have k0 : ∀ o, (wx.setCell ⟨b + 2, 3, none⟩ v').cell? ⟨b + 1, o, none⟩ = wx.cell? ⟨b + 1, o, none⟩ := fun o => World.cell?_setCell_other _ _ _ _ (fun e => by injection e with e; omega)
  have k1 : ∀ o, o < 3 → (wx.setCell ⟨b + 2, 3, none⟩ v').cell? ⟨b + 2, o, none⟩ = wx.cell? ⟨b + 2, o, none⟩ := fun o ho => World.cell?_setCell_other _ _ _ _ (fun e => by injection e with e1 e2; omega)
  exact ⟨(k0 0).trans h.y0, (k0 1).trans h.y1, (k0 2).trans h.y2, (k0 3).trans h.y3, fun o => by simpa using h.yf o, (k1 0 (by omega)).trans h.q0, (k1 1 (by omega)).trans h.q1, (k1 2 (by omega)).trans h.q2, World.cell?_setCell_same _ _ _ h.q3, fun o => by simpa using h.qf o, by simpa using h.sz⟩
theorem closed_enters : Enters Try.prog 11 := fun _ _ => by kernel_rfl
set_option maxRecDepth 100000 in
set_option maxHeartbeats 8000000 in
theorem closed_any : ∀ p : VT, ClosedOk p := by
  intro p
  induction p with
  | none => intro cs S A n c w hp; exact hp.elim
  | node pk pm ps pn pa ih =>
    intro cs S A n c w hp hpm hpn hnc hcm hA
    have HP := Lib.hid hp
    have IH := Lib.hid ih
    have HPM := Lib.hid hpm
    have HPN := Lib.hid hpn
    have HA := Lib.hid hA
    obtain ⟨pA, pc, rfl, hpnc, hpcm, hpA, _⟩ := hp
    have HBB := Lib.hid (show ∀ o o', Below w.heap.size w ((w.alloc o).alloc o') from fun o o' => ((Below.refl w.heap.size w).alloc (Nat.le_refl _) _).alloc (by simp) _)
    clear ih hpm hA hpA
    by_cases h2 : pk = 2
    · subst h2
      have hn1 : 1 ≤ n := by simpa [VT.names] using hpn
      obtain ⟨XA, hcut, hXA⟩ := cut_one A n c hn1 hnc HA.out
      have HXA := Lib.hid hXA
      have FIN := Lib.hid (show ∀ W', Below w.heap.size w W' → ClosedPost (.node 2 pm ps pn pa) n S w (.returned (.tuple #[.agg #[.int .i64 1, .int .i64 0, .string ⟨#[]⟩, .slice none 0 0], .slice XA (n - 1) (c - 1), .bool true])) W' from fun W' hb =>
        ⟨_, XA, c - 1, rfl, by rw [closed_node, if_pos rfl]; exact leaf_V W' _ 1 0, by simp only [VT.names, if_true]; omega, by omega, HXA.out, hb⟩)
      have g1 : ((n : Int) == 0) = false := by simp; omega
      clear hXA hpn
      go_enter Try.func11, Try.ntmps11
      go_wp2_with fail
      go_region
      all_goals
        go_wp2_with fail
        refine bodyPost_ret (v := .tuple #[.agg #[.int .i64 1, .int .i64 0, .string ⟨#[]⟩, .slice none 0 0], .slice XA (n - 1) (c - 1), .bool true]) (by simp [results, Try.results11, go_sem]) rfl ?_
        exact FIN.out _ (HBB.out _ _).drew
    · have e2 : (pk == 2) = false := by simpa using h2
      by_cases h6 : pk = 6
      · subst h6
        obtain ⟨i0, hi, jz0, jz1, jz2⟩ := info_parts infoP
        have HNM := Lib.hid (show (VT.node 6 pm ps pn pa).names = sumTo (fun i => (pa i).names) pn from rfl)
        have hpn4 : pn ≤ 4194304 := by
          have hm := HPM.out
          by_cases h0 : 0 < pn
          · obtain ⟨b, off, _, _, _, C, hC⟩ := isV_arg HP.out h0
            have h1 : pn ≤ sumTo (fun i => (pa i).many) pn := len_sumTo fun i hi => isV_many (hC i hi).1
            simp only [VT.many] at hm
            omega
          · omega
        obtain ⟨W0, hW0⟩ : ∃ W0, W0 = ((w.alloc (.cells #[.int .i64 6, .int .i64 pm, .string ps, .slice pA pn pc] 24)).alloc (.cells #[.int .i64 0, .int .i64 0, .string ⟨#[]⟩, .slice none 0 0] 24)).alloc (.cells #[.int .i64 6, .int .i64 0, .string ps, .slice none 0 0] 24) := ⟨_, rfl⟩
        have HB0 := Lib.hid (show Below w.heap.size w W0 by rw [hW0]; exact (HBB.out _ _).alloc (by simp; omega) _)
        have HK0 := Lib.hid (show KQ W0 w.heap.size (.slice none 0 0) ps by
          rw [hW0]
          constructor
          any_goals (first | simp [go_sem] | (intro o; simp [go_sem])))
        clear h2 e2 hpn
        go_enter Try.func11, Try.ntmps11
        go_wp2_with fail
        rw [← hW0]
        clear hW0
        go_loopw [1, 9, 10, 11, 12, 36] (fun l1 _ _ _ _ i wr => ∃ (q : Nat) (C : Nat → List Value) (v : Value) (A' : Option Addr) (c' : Nat), q ≤ pn ∧ i = .int .i64 (q : Int) ∧ l1 = .slice A' (n - sumTo (fun i => (pa i).names) q) c' ∧ n - sumTo (fun i => (pa i).names) q ≤ c' ∧ c' ≤ 9223372036854775807 ∧ (A' = Option.none → n - sumTo (fun i => (pa i).names) q = 0) ∧
          PRow wr (w.heap.size + 3) v q C (fun i => closedP (pa i)) (fun b => S b ∧ b < w.heap.size) ∧ KQ wr w.heap.size v ps ∧ Below w.heap.size w wr) (fun _ _ _ _ _ i _ => pn - (intOf i).toNat)
        case atStart => exact ⟨0, fun _ => List.replicate 4 undef, .slice none 0 0, A, c, Nat.zero_le _, rfl, rfl, by simp only [sumTo]; omega, hcm, HA.out, ⟨World.ownsRow_nil _ _ _ _, fun _ => by simp, fun i hi => by omega⟩, HK0.out, HB0.out⟩
        case round =>
          obtain ⟨q, C, v, A', c', hq, rfl, rfl, hc1, hc2, hA', hPR, hKQ, hB⟩ := hrel
          have HA' := Lib.hid hA'
          have HPR := Lib.hid hPR
          have HKQ := Lib.hid hKQ
          have HB := Lib.hid hB
          clear hA' hPR hKQ hB
          by_cases hlt : q < pn
          rotate_left
          · obtain rfl : q = pn := by omega
            obtain ⟨v4, c4, rfl, _, _, _⟩ := own_any HPR.out.row
            have FIN := Lib.hid (show ∀ W', Below w.heap.size wr W' → (∀ b, b ≠ w.heap.size + 1 → b < wr.heap.size → W'.heap[b]? = wr.heap[b]?) → ClosedPost (.node 6 pm ps q pa) n S w (.returned (.tuple #[.agg #[.int .i64 6, .int .i64 0, .string ps, .slice v4 q c4], .slice A' (n - sumTo (fun i => (pa i).names) q) c', .bool true])) W' from fun W' hb hk => by
              refine ⟨_, A', c', by rw [HNM.out], ?_, by rw [HNM.out]; exact hc1, hc2, by rw [HNM.out]; exact HA'.out, HB.out.trans hb⟩
              rw [closed_node, if_neg (by omega), if_pos rfl]
              have h1 := HPR.out.isV 6 0 ps (S' := fun b => S b ∧ b < w.heap.size ∨ w.heap.size + 3 ≤ b) (fun b h => h)
              exact isV_frame hb.size (fun b hs hl => ⟨by rcases hs with h | h; exact .inl h.1; exact .inr (by omega), hk b (by rcases hs with h | h <;> omega) hl⟩) h1)
            obtain ⟨y0, y1, y2, y3, yf, q0, q1, q2, q3, qf, sz⟩ := HKQ.out
            have s0 : (wr.cell? ⟨w.heap.size + 1, 0, none⟩).isSome = true := by rw [y0]; rfl
            have s1 : (wr.cell? ⟨w.heap.size + 1, 1, none⟩).isSome = true := by rw [y1]; rfl
            have s2 : (wr.cell? ⟨w.heap.size + 1, 2, none⟩).isSome = true := by rw [y2]; rfl
            have s3 : (wr.cell? ⟨w.heap.size + 1, 3, none⟩).isSome = true := by rw [y3]; rfl
            generalize n - sumTo (fun i => (pa i).names) q = N at *
            go_wp2_with fail
            refine bodyPost_ret (v := .tuple #[.agg #[.int .i64 6, .int .i64 0, .string ps, .slice v4 q c4], .slice A' N c', .bool true]) (by simp [results, Try.results11, go_sem, s0, s1, s2, s3]) rfl ?_
            refine FIN.out _ ?_ (fun b h1 h2 => ?_)
            · iterate 4 (refine below_set ?_ (by omega))
              exact Below.refl _ _
            · iterate 4 (refine blk_set ?_ h1)
              rfl
          obtain ⟨pb, poff, rfl, hpb, hpS, PC, hPC⟩ := isV_arg HP.out (by omega)
          obtain ⟨hp1, hpcell⟩ := hPC q hlt
          obtain ⟨k1, m1, s1, A1, n1, c1, hPq⟩ := isV_cells hp1
          rw [hPq] at hpcell hp1
          have x0 : wr.cell? ⟨pb, poff + q * 4, none⟩ = some (.int .i64 k1) := (HB.out.cell (p := ⟨pb, _, none⟩) hpb).trans (hpcell 0 _ rfl)
          have x1 : wr.cell? ⟨pb, poff + q * 4 + 1, none⟩ = some (.int .i64 m1) := (HB.out.cell (p := ⟨pb, _, none⟩) hpb).trans (hpcell 1 _ rfl)
          have x2 : wr.cell? ⟨pb, poff + q * 4 + 2, none⟩ = some (.string s1) := (HB.out.cell (p := ⟨pb, _, none⟩) hpb).trans (hpcell 2 _ rfl)
          have x3 : wr.cell? ⟨pb, poff + q * 4 + 3, none⟩ = some (.slice A1 n1 c1) := (HB.out.cell (p := ⟨pb, _, none⟩) hpb).trans (hpcell 3 _ rfl)
          have l1 : pb < wr.heap.size := by have := HB.out.size; omega
          have HP1 := Lib.hid (show (pa q).isV wr (fun b => S b ∧ b < w.heap.size) _ from isV_frame HB.out.size (fun b hs hl => ⟨⟨hs, hl⟩, HB.out.block b hl⟩) hp1)
          obtain ⟨hqm, hqn, hqs⟩ : (pa q).many ≤ 4194304 ∧ (pa q).names ≤ n - sumTo (fun i => (pa i).names) q ∧ n - sumTo (fun i => (pa i).names) q - (pa q).names = n - sumTo (fun i => (pa i).names) (q + 1) := by
            have h1 := HPM.out
            have h2 := HPN.out
            simp only [VT.many] at h1
            rw [HNM.out] at h2
            have h4 := le_sumTo (g := fun i => (pa i).many) hlt
            have h8 : sumTo (fun i => (pa i).names) (q + 1) ≤ sumTo (fun i => (pa i).names) pn := sumTo_mono (by omega)
            have h9 : sumTo (fun i => (pa i).names) (q + 1) = sumTo (fun i => (pa i).names) q + (pa q).names := rfl
            refine ⟨by omega, by omega, by omega⟩
          obtain ⟨N, hN⟩ : ∃ N, n - sumTo (fun i => (pa i).names) q = N := ⟨_, rfl⟩
          rw [hN] at hqn hqs hc1 HA'
          rw [hN]
          have HQS := Lib.hid hqs
          have HC := Lib.hid (fun W (hg : wr.grownBy W none) => IH.out q _ (fun b => S b ∧ b < w.heap.size) A' N c' W (isV_grown HP1.out hg (fun b hb _ => ⟨by simp, hb⟩)) hqm hqn hc1 hc2 HA'.out)
          have hzr := HB.out.size
          have hsz := HKQ.out.sz
          clear hPC hp1 hpcell hPq hqm hqn hqs hN
          go_wp2_with fail
          refine (HC.out _ (grown_alloc (grown_self _ _) _)).mono ?_
          rintro e w1 ⟨cs, A2, c2, rfl, hv, hd1, hd2, hd3, hb1⟩
          obtain ⟨k2, m2, s2, A3, n3, c3, rfl⟩ := isV_cells hv
          have HV1 := Lib.hid hv
          have HD3 := Lib.hid hd3
          have HD1 := Lib.hid hd1
          have HG1 := Lib.hid (show wr.grownBy w1 none from grown_step (grown_alloc (grown_self _ _) _) (grown_below (g := none) hb1) (.inr (by simp)))
          have HPR1 := Lib.hid (HPR.out.grown HG1.out (by simp))
          have HKQ1 := Lib.hid (HKQ.out.grown HG1.out (by simp))
          obtain ⟨v4, c4, rfl, _, _, _⟩ := own_any HPR.out.row
          have HONE := Lib.hid (isV_one hv)
          have hz1 : wr.heap.size + 1 ≤ w1.heap.size := by have := hb1.size; simp at this; omega
          clear hv hd1 hd3 hb1 x0 x1 x2 x3
          obtain ⟨y0, y1, y2, y3, yf, q0, q1, q2, q3, qf, sz⟩ := HKQ1.out
          have HFIN := Lib.hid (show ∀ o o' w2 v2, ((w1.alloc o).alloc o').grownBy w2 (Value.slice v4 q c4).ownBlock → w2.ownsRow (w.heap.size + 3) 24 4 v2 (q + 1) (flatC C q ++ [.int .i64 k2, .int .i64 m2, .string s2, .slice A3 n3 c3]) → (v2.ownBlock = (Value.slice v4 q c4).ownBlock ∨ v2.ownBlock = some ((w1.alloc o).alloc o').heap.size) →
              PRow w2 (w.heap.size + 3) v2 (q + 1) (updC C q [.int .i64 k2, .int .i64 m2, .string s2, .slice A3 n3 c3]) (fun i => closedP (pa i)) (fun b => S b ∧ b < w.heap.size) ∧ KQ w2 w.heap.size (.slice v4 q c4) ps ∧ Below w.heap.size w w2 from fun o o' w2 v2 hg hO hat => by
            have hga : w1.grownBy ((w1.alloc o).alloc o') none := grown_alloc (grown_alloc (grown_self _ _) _) _
            have hrow : ∀ k, (Value.slice v4 q c4).ownBlock = some k → w.heap.size + 3 ≤ k ∧ k < wr.heap.size := fun k hk => HPR.out.row.lt k hk
            refine ⟨(HPR1.out.grown hga (by simp)).snoc (fun b hb => by omega) _ rfl hg hO hat (isV_grown HV1.out hga (fun b hb _ => ⟨by simp, ?_⟩)), (HKQ1.out.grown hga (by simp)).grown hg (fun k hk => (hrow k hk).1), ?_⟩
            · rcases hb with h | h
              · exact .inl h
              · refine .inr ⟨by simp at h; omega, fun e => ?_⟩
                have := (hrow b e.symm).2
                simp at h
                omega
            · exact below_grown (below_grown (below_grown HB.out hzr HG1.out (by simp)) (by omega) hga (by simp)) (by have := hga.size; omega) hg (fun k hk => by have := (hrow k hk).1; omega))
          go_wp2_with (at_builtin; go_loud (refine wpList_append_own_at _ rfl _ _ 22 rfl (w.heap.size + 3) 24 i0 _ 4 56 Try.underlying22 hi jz0 jz1 jz2 rfl (by omega) (.slice v4 q c4) q (flatC C q) rfl ((HPR1.out.row.alloc _).alloc _) ⟨w1.heap.size + 1, 0, none⟩ 1 1 [.int .i64 k2, .int .i64 m2, .string s2, .slice A3 n3 c3] rfl rfl (cell_four_one _ _ _ _ _ _ _) HONE.out (by unfold maxLen; omega) (by omega) (by simp; omega) ?_; intro v2 w2 hown2 hgrow2 _ hat2; obtain ⟨v5, c5, rfl, _, _, _⟩ := own_any hown2; obtain ⟨hPR2, hKQ2, hB2⟩ := HFIN.out _ _ _ _ hgrow2 hown2 hat2; have HPR2 := Lib.hid hPR2; have HKQ2 := Lib.hid hKQ2; have HB2 := Lib.hid hB2; clear hown2 hgrow2 hat2 hPR2 hKQ2 hB2; have r3 := HKQ2.out.q3; have rf := HKQ2.out.qf))
          go_roundw
          case rel =>
            refine ⟨q + 1, updC C q [.int .i64 k2, .int .i64 m2, .string s2, .slice A3 n3 c3], .slice v5 (q + 1) c5, A2, c2, by omega, by go_num, by rw [HQS.out], by rw [← HQS.out]; exact HD1.out, hd2, by rw [← HQS.out]; exact HD3.out, HPR2.out.grown (grown_set (g := w.heap.size + 2) (grown_self w2 _) _) (fun k hk => by injection hk with hk; omega), HKQ2.out.set _, below_set HB2.out (by omega)⟩
          case measure => simp [intOf]; omega
      · have e6 : (pk != 6) = true := by simpa using h6
        have FIN := Lib.hid (show ∀ W', Below w.heap.size w W' → ClosedPost (.node pk pm ps pn pa) n S w (.returned (.tuple #[.agg #[.int .i64 pk, .int .i64 pm, .string ps, .slice pA pn pc], .slice A n c, .bool true])) W' from fun W' hb => by
          have e1 : n - (VT.node pk pm ps pn pa).names = n := by simp [VT.names, h2, h6]
          refine ⟨_, A, c, by rw [e1], ?_, by omega, hcm, by rw [e1]; exact HA.out, hb⟩
          rw [closed_node, if_neg h2, if_neg h6]
          exact isV_mono (isV_below HP.out hb) (fun b _ h => .inl h))
        clear h2 h6 hpn
        go_enter Try.func11, Try.ntmps11
        go_wp2_with fail
        refine bodyPost_ret (v := .tuple #[.agg #[.int .i64 pk, .int .i64 pm, .string ps, .slice pA pn pc], .slice A n c, .bool true]) (by simp [results, Try.results11, go_sem]) rfl ?_
        exact FIN.out _ (HBB.out _ _)
end Go.Proofs.Ytjalgnpbdcefdaa
