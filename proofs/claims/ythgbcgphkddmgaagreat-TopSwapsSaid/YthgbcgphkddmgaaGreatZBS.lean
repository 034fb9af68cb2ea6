/- The cluster of a line's law: how it is made. A cluster with live lines: a turn. Time goes on at a node. -/
import Derived.Test.YthgbcgphkddmgaaGreatZBN
import Derived.Test.YthgbcgphkddmgaaGreatZBR
import Derived.Test.YthgbcgphkddmgaaGreatZBG
import Derived.Test.YthgbcgphkddmgaaGreatZBO
import Derived.Test.YthgbcgphkddmgaaGreatZBM
import Derived.Maps.AppendAt
import Derived.Test.YthgbcgphkddmgaaGreatZAS
import Derived.Test.YthgbcgphkddmgaaGreatZAH
import Derived.IntWalk
namespace Go.Proofs.YthgbcgphkddmgaaGreat
open Go.RowKit Go.Maps
set_option linter.unusedVariables false
set_option linter.unusedSimpArgs false
theorem infoPl : (Tryz.prog.info? 53).map (fun i => (i.zero, i.size, i.bytes)) = some (some (.agg #[.int .i64 0, .int .i64 0, .int .i64 0]), 3, 24) := by kernel_rfl
def plC (ps : List (Nat × Nat × Nat)) (j : Nat) : List Value := [.int .i64 (((plN ps j).1 + 1 : Nat) : Int), .int .i64 (((plN ps j).2.1 + 1 : Nat) : Int), .int .i64 ((plN ps j).2.2 : Int)]
def OwnPl (w : World) (base : Nat) (v : Value) (ps : List (Nat × Nat × Nat)) : Prop := w.ownsRow base 53 3 v ps.length (flatC (plC ps) ps.length)
theorem plN_old {l : List (Nat × Nat × Nat)} {y : Nat × Nat × Nat} {j : Nat} (h : j < l.length) : plN (l ++ [y]) j = plN l j := by
  unfold plN
  rw [List.getD_eq_getElem?_getD, List.getElem?_append_left h, ← List.getD_eq_getElem?_getD]
theorem plN_new {l : List (Nat × Nat × Nat)} {y : Nat × Nat × Nat} : plN (l ++ [y]) l.length = y := by
  unfold plN
  rw [List.getD_eq_getElem?_getD, List.getElem?_append_right (Nat.le_refl _)]
  simp
theorem pl_snoc (l : List (Nat × Nat × Nat)) (y : Nat × Nat × Nat) : flatC (plC (l ++ [y])) (l ++ [y]).length = flatC (plC l) l.length ++ [.int .i64 ((y.1 + 1 : Nat) : Int), .int .i64 ((y.2.1 + 1 : Nat) : Int), .int .i64 (y.2.2 : Int)] := by
  have he : ∀ (f g : Nat → List Value) n, (∀ j, j < n → f j = g j) → flatC f n = flatC g n := fun f g n => by
    induction n with
    | zero => intro _; rfl
    | succ n ih => intro h; rw [flatC, flatC, ih (fun j hj => h j (by omega)), h n (by omega)]
  rw [List.length_append]
  show flatC _ (l.length + 1) = _
  rw [flatC]
  congr 1
  · exact he _ _ _ (fun j hj => by unfold plC; rw [plN_old hj])
  · unfold plC
    rw [plN_new]
section
variable {w w' WB : World} {X X' X0 Mc D E : Nat → Prop} {b0 s base T T' : Nat} {bl : CBk → Nat} {pn : Nat → Nat} {vl : Value} {ll : Nat} {M : Nat → Nat → Prop} {Pn : Nat → Int → Nat} {C C' : CqS}
/-- the law's cluster under way; E: blocks of the call's own -/
def RvcC (X0 : Nat → Prop) (b0 s : Nat) (w : World) (bl : CBk → Nat) (pn : Nat → Nat) (C : CqS) (E : Nat → Prop) : Prop :=
  ∃ X Mc, (∀ k, X0 k → X k) ∧ (∀ k, X k → X0 k ∨ s ≤ k) ∧ (∀ k, Mc k → s ≤ k) ∧ CqAt w X Mc b0 10000 bl pn 0 C ∧ ∀ k, E k → X k ∧ ¬ Mc k ∧ b0 ≤ k
theorem RvcC.new (h : RvcC X0 b0 s w bl pn C E) (hf : Fr (fun _ => False) w w') : RvcC X0 b0 s w' bl pn C E := by
  obtain ⟨X, Mc, h1, h2, h3, ⟨vl, M, Pn, hc⟩, he⟩ := h
  exact ⟨X, Mc, h1, h2, h3, ⟨vl, M, Pn, hc.new hf⟩, he⟩
theorem RvcC.sz (h : RvcC X0 b0 s w bl pn C E) : s ≤ w.heap.size := by
  obtain ⟨X, Mc, h1, h2, h3, ⟨vl, M, Pn, hc⟩, he⟩ := h
  have h4 := (hc.own .P trivial).1
  have := h3 _ h4
  have := hc.xlt _ (hc.mx _ h4).1
  omega
/-- the call's own row has grown -/
theorem RvcC.app {v v' : Value} (h : RvcC X0 b0 s w bl pn C (fun k => v.ownBlock = some k)) (hB : Fr (fun _ => False) w WB) (hg : WB.grownBy w' v.ownBlock) (hb : b0 ≤ s) (hat : v'.ownBlock = v.ownBlock ∨ ∃ g, v'.ownBlock = some g ∧ w.heap.size ≤ g ∧ g < w'.heap.size) : RvcC X0 b0 s w' bl pn C (fun k => v'.ownBlock = some k) := by
  have hs := h.sz
  obtain ⟨X, Mc, h1, h2, h3, ⟨vl, M, Pn, hc⟩, he⟩ := h
  have hf : Fr (fun k => v.ownBlock = some k) w w' := Fr.trans' (S := fun k => v.ownBlock = some k) (hB.weak (fun _ h => h.elim)) (Fr.of_grown hg (fun b hb => .inl hb))
  have hv : ∀ k, v'.ownBlock = some k → v.ownBlock = some k ∨ w.heap.size ≤ k ∧ k < w'.heap.size := fun k hk => by
    rcases hat with e | ⟨g, e, h4, h5⟩
    · exact .inl (e ▸ hk)
    · rw [e] at hk
      injection hk with hk
      exact .inr ⟨by omega, by omega⟩
  refine ⟨fun k => X k ∨ v'.ownBlock = some k, Mc, fun k hk => .inl (h1 k hk), fun k hk => ?_, h3, ⟨vl, M, Pn, hc.fr hf (fun k hk => ⟨(he k hk).1, (he k hk).2.2, (he k hk).2.1⟩) (fun k hk => .inl hk) (fun k hk => ?_)⟩, fun k hk => ⟨.inr hk, ?_⟩⟩
  · rcases hk with hk | hk
    · exact h2 k hk
    · rcases hv k hk with e | e
      · exact h2 k (he k e).1
      · exact .inr (by omega)
  · rcases hk with hk | hk
    · exact .inl hk
    · rcases hv k hk with e | e
      · exact .inl (he k e).1
      · exact .inr e
  · rcases hv k hk with e | e
    · exact (he k e).2
    · refine ⟨fun hm => ?_, by omega⟩
      have := hc.xlt _ (hc.mx _ hm).1
      omega
/-- behind a call on the cluster -/
theorem RvcC.call {Mc' : Nat → Prop} (h1 : ∀ k, X0 k → X k) (h2 : ∀ k, X k → X0 k ∨ s ≤ k) (h3 : ∀ k, Mc k → s ≤ k) (hc : CqG w X Mc b0 10000 bl pn vl 0 M Pn C) (he : ∀ k, E k → X k ∧ ¬ Mc k ∧ b0 ≤ k) (hs : s ≤ w.heap.size) (hg : Gr X Mc w X' Mc' w') (hc' : CqAt w' X' Mc' b0 10000 bl pn 0 C') : RvcC X0 b0 s w' bl pn C' E ∧ Fr (fun k => s ≤ k ∧ ¬ E k) w w' :=
  ⟨⟨X', Mc', fun k hk => hg.up k (h1 k hk), fun k hk => by
    rcases hg.xs k hk with e | e
    · exact h2 k e
    · exact .inr (by omega), fun k hk => by
    rcases hg.ms k hk with e | e
    · exact h3 k e
    · omega, hc', fun k hk => ⟨hg.up k (he k hk).1, fun hm => by
    rcases hg.ms k hm with e | e
    · exact (he k hk).2.1 e
    · have := hc.xlt _ (he k hk).1; omega, (he k hk).2.2⟩⟩, hg.fr.weak (fun k hk => ⟨h3 k hk, fun hke => (he k hke).2.1 hk⟩)⟩
/-- plans, by numbers -/
def plansT (n : Nat) (F : Nat → Int) (m : Nat) : List (Nat × Nat × Nat) := (List.range m).map fun j => planOf n (F j)
theorem plansT_len (n : Nat) (F : Nat → Int) (m : Nat) : (plansT n F m).length = m := by unfold plansT; simp
theorem plansT_ok {n : Nat} (hn : 1 ≤ n) {F : Nat → Int} {m : Nat} {p : Nat × Nat × Nat} (h : p ∈ plansT n F m) : p.1 < n ∧ p.2.1 < n ∧ p.2.2 ≤ 8 := by
  obtain ⟨k, -, e⟩ := List.mem_map.1 h
  rw [← e]
  have := restK_lt ((F k).tdiv 64) (n := 9) (by omega)
  exact ⟨restK_lt _ hn, restK_lt _ hn, by show restK ((F k).tdiv 64) 9 ≤ 8; omega⟩
theorem plansT_at {n : Nat} {F : Nat → Int} {m j : Nat} (h : j < m) : plN (plansT n F m) j = planOf n (F j) := by
  unfold plN plansT
  rw [List.getD_eq_getElem?_getD, List.getElem?_map, List.getElem?_range h]
  rfl
def RvcPost (X0 : Nat → Prop) (b0 N : Nat) (ps : List (Nat × Nat × Nat)) (W : World) (e : Ending) (w' : World) : Prop :=
  ∃ bl pn A' c', e = .returned (.tuple #[.pointer (some ⟨bl .P, 0, none⟩), .slice A' ps.length c', .bool true]) ∧ OwnPl w' W.heap.size (.slice A' ps.length c') ps ∧ RvcC X0 b0 W.heap.size w' bl pn (pumpsC N ps ps.length) (fun k => (Value.slice A' ps.length c').ownBlock = some k) ∧ Below W.heap.size W w'
set_option maxRecDepth 100000 in
set_option maxHeartbeats 8000000 in
theorem rvc_any (X0 : Nat → Prop) (b0 N : Nat) (W : World) (A : Option Addr) (n0 c : Nat) (F : Nat → Int) (hX0 : ∀ k, X0 k → k < W.heap.size) (hb0 : b0 ≤ W.heap.size) (hN : 1 ≤ N ∧ N ≤ 8) (hnc : n0 ≤ c) (hcm : c ≤ 9223372036854775807) (hA : A = none → n0 = 0) (hR : Rd W 1 (tmC F) A n0) (hwf : ∀ j, j < n0 → (Lit.int .i64 (F j)).wf = true) :
    Calls Tryz.prog 18 #[.int .i64 (N : Int), .slice A n0 c] W (RvcPost X0 b0 N (plansT N F (min n0 6)) W) := by
  have HCN := Lib.hid (Cx.cnew_any X0 b0 N 3 W hX0 hb0 hN.1 hN.2 (by omega) (by omega))
  have HR := Lib.hid hR
  have HWF := Lib.hid hwf
  have HB0 := Lib.hid hb0
  clear hR hwf hX0
  go_enter Tryz.func18, Tryz.ntmps18
  go_wp2_with fail
  refine HCN.out.mono ?_
  rintro e w1 ⟨bl, pn, rfl, ⟨vl, M, Pn, hcq⟩, hb1⟩
  have HTC := Lib.hid (show RvcC X0 b0 W.heap.size w1 bl pn (sinksC N 0) (fun _ => False) from ⟨_, _, fun k hk => .inl hk, fun k hk => by
    rcases hk with hk | hk
    · exact .inl hk
    · exact .inr hk.1, fun k hk => hk.1, ⟨vl, M, Pn, hcq.up (Nat.zero_le _)⟩, fun _ h => h.elim⟩)
  have HB1 := Lib.hid hb1
  clear hcq hb1 HCN
  go_wp2_with fail
  go_loopw [9, 10, 11] (fun v9 _ _ wr => ∃ k, k ≤ N ∧ v9 = .int .i64 ((k : Int) + 1) ∧ Hid (RvcC X0 b0 W.heap.size wr bl pn (sinksC N k) (fun _ => False)) ∧ Hid (Below W.heap.size W wr)) (fun v9 _ _ _ => N + 1 - (intOf v9).toNat)
  case atStart => exact ⟨0, Nat.zero_le _, rfl, HTC, HB1⟩
  case round =>
    clear HTC HB1
    obtain ⟨k, hk, rfl, HTC, HB⟩ := hrel
    by_cases hlt : k < N
    · have hd : decide ((k : Int) + 1 ≤ (N : Int)) = true := decide_eq_true (by omega)
      obtain ⟨X, Mc, h1, h2, h3, ⟨vl, M, Pn, hcq⟩, he⟩ := HTC.out
      have hok := sinks_ok hN.2 k hk
      have hI := hok.nd k hlt
      rw [if_neg (Nat.lt_irrefl _)] at hI
      have hsp := cspawn_any hcq (i := k) (by rw [hok.cn]; exact hlt) sinkS [] _ (fun _ => True) none 0 (sink_rv N).1 ⟨(fun e => by cases e), Nat.zero_le _, fun i => by simp [stN]; decide⟩ ⟨Nat.zero_le _, by omega, fun h => absurd h (Nat.lt_irrefl _)⟩ hI.has (by rw [hI.len]; omega) (by rw [hI.sp]; omega) (by have := hI.pot; omega) (by omega) (by rw [hok.hn]; omega)
      have e1 : ((sinksC N k).nd k).id * 1000 + ((sinksC N k).nd k).spawned + 1 = ((k : Int) + 1) * 1000 + 1 := by
        rw [hI.rv.id, hI.sp]; omega
      have HSP := Lib.hid (show Calls Tryz.prog 11 #[.pointer (some ⟨bl .P, 0, none⟩), .int .i64 ((k : Int) + 1), .string sinkS, .slice none 0 0] wr (CqPost X Mc b0 10000 bl pn 0 (sinksC N (k + 1)) wr (.tuple #[.int .i64 (((k : Int) + 1) * 1000 + 1), .int .i64 0])) from by
        rw [← e1]
        exact hsp)
      have HH := Lib.hid (And.intro h1 (And.intro h2 (And.intro h3 (And.intro hcq he))))
      have hk8 : (k : Int) ≤ 8 := by omega
      clear h1 h2 h3 hcq he hok hI hsp e1
      unfold sinkS at HSP
      go_wp2_with fail
      refine HSP.out.mono ?_
      rintro e w2 ⟨rfl, X2, Mc2, hg2, hc2⟩
      obtain ⟨ht2, hf2⟩ := RvcC.call HH.out.1 HH.out.2.1 HH.out.2.2.1 HH.out.2.2.2.1 HH.out.2.2.2.2 HTC.out.sz hg2 hc2
      have HT2 := Lib.hid ht2
      have HB2 := Lib.hid (HB.out.trans (hf2.below (fun k hk => hk.1) HB.out.size))
      clear hg2 hc2 ht2 hf2 HSP HH
      go_wp2_with fail
      exact ⟨⟨k + 1, by omega, by go_num, HT2, HB2⟩, by simp [intOf]; omega⟩
    · obtain rfl : N = k := by omega
      have hd : decide ((N : Int) + 1 ≤ (N : Int)) = false := decide_eq_false (by omega)
      obtain ⟨m, hm⟩ : ∃ m, min n0 6 = m := ⟨_, rfl⟩
      have hmin : min (n0 : Int) 6 = (m : Int) := by omega
      have hmax : max (m : Int) 0 = (m : Int) := by omega
      have hm6 : m ≤ 6 ∧ m ≤ n0 := by omega
      obtain ⟨s, hs⟩ : ∃ s, W.heap.size = s := ⟨_, rfl⟩
      rw [hs] at HTC HB
      have HS := Lib.hid hs
      have HM := Lib.hid hm
      obtain ⟨ps, hps⟩ : ∃ ps, plansT N F m = ps := ⟨_, rfl⟩
      have hpl : ps.length = m := by rw [← hps, plansT_len]
      have HPO := Lib.hid (show ∀ p, p ∈ ps → p.1 < N ∧ p.2.1 < N ∧ p.2.2 ≤ 8 from fun p hp => plansT_ok hN.1 (hps ▸ hp))
      have HPA := Lib.hid (show ∀ j, j < m → plN ps j = planOf N (F j) from fun j hj => by rw [← hps]; exact plansT_at hj)
      have HPL := Lib.hid hpl
      have HPS := Lib.hid hps
      obtain ⟨ipl, hipl, zp0, zp1, zp2⟩ := info_parts infoPl
      clear hs hm hps hpl hk hlt hd
      go_wp2_with fail
      go_loopw [12, 13, 14, 15, 16, 17, 18, 58] (fun v12 _ _ _ _ _ _ v58 wr => ∃ j A' c', j ≤ m ∧ v58 = .int .i64 (j : Int) ∧ v12 = .slice A' j c' ∧ Hid (OwnPl wr s (.slice A' j c') (ps.take j)) ∧ Hid (RvcC X0 b0 s wr bl pn (pumpsC N ps j) (fun k => (Value.slice A' j c').ownBlock = some k)) ∧ Hid (Below s W wr)) (fun _ _ _ _ _ _ _ v58 _ => m - (intOf v58).toNat)
      case atStart => exact ⟨0, none, 0, Nat.zero_le _, rfl, rfl, Lib.hid (World.ownsRow_nil _ _ _ _), Lib.hid (by
        obtain ⟨X, Mc, h1, h2, h3, h4, h5⟩ := HTC.out
        exact ⟨X, Mc, h1, h2, h3, h4, fun k hk => by cases hk⟩), HB⟩
      case round =>
        clear HTC HB
        rename World => wj
        obtain ⟨j, A', c', hj, rfl, rfl, HO, HTC, HB⟩ := hrel
        by_cases hlj : j < m
        · obtain ⟨b, off, rfl, hb, hcell⟩ := HR.out (by omega)
          have x0 := HB.out
          have hcj : wj.cell? ⟨b, off + j, none⟩ = some (.int .i64 (F j)) := by
            have h1 := hcell j (by omega) 0 (.int .i64 (F j)) rfl
            rw [Nat.mul_one, Nat.add_zero] at h1
            have h2 := HB.out.cell (p := ⟨b, off + j, none⟩) (by have := HS.out; show b < s; omega)
            exact h2.trans h1
          obtain ⟨x, hx⟩ : ∃ x, F j = x := ⟨_, rfl⟩
          rw [hx] at hcj
          have hxw : (Lit.int .i64 x).wf = true := by rw [← hx]; exact HWF.out j (by omega)
          obtain ⟨r1, hr1⟩ : ∃ r1, restK x N = r1 := ⟨_, rfl⟩
          obtain ⟨r2, hr2⟩ : ∃ r2, restK (x.tdiv 8) N = r2 := ⟨_, rfl⟩
          obtain ⟨r3, hr3⟩ : ∃ r3, restK (x.tdiv 64) 9 = r3 := ⟨_, rfl⟩
          have hb1 : r1 < 8 := by have := restK_lt x hN.1; omega
          have hb2 : r2 < 8 := by have := restK_lt (x.tdiv 8) hN.1; omega
          have hb3 : r3 < 9 := by rw [← hr3]; exact restK_lt _ (by omega)
          have HR1 := Lib.hid (show ∀ w, Calls Tryz.prog 6 #[.int .i64 x, .int .i64 (N : Int)] w fun e w' => e = .returned (.int .i64 (r1 : Int)) ∧ w' = w from fun w => by rw [← hr1]; exact restK_any x N w hN.1 (by omega))
          have HR2 := Lib.hid (show ∀ w, Calls Tryz.prog 6 #[.int .i64 (x.tdiv 8), .int .i64 (N : Int)] w fun e w' => e = .returned (.int .i64 (r2 : Int)) ∧ w' = w from fun w => by rw [← hr2]; exact restK_any _ N w hN.1 (by omega))
          have HR3 := Lib.hid (show ∀ w, Calls Tryz.prog 6 #[.int .i64 (x.tdiv 64), .int .i64 9] w fun e w' => e = .returned (.int .i64 (r3 : Int)) ∧ w' = w from fun w => by rw [← hr3]; exact restK_any _ 9 w (by omega) (by omega))
          have HPJ := Lib.hid (show plN ps j = (r1, r2, r3) from by rw [HPA.out j hlj, hx]; unfold planOf; rw [hr1, hr2, hr3])
          have hlow := (show Wf x from hxw).low
          have d8 : -9223372036854775808 ≤ x.tdiv 8 ∧ x.tdiv 8 ≤ 9223372036854775807 := by
            cases x with
            | ofNat n =>
              have e : (Int.ofNat n).tdiv 8 = ((n / 8 : Nat) : Int) := rfl
              rw [e]
              have : (Int.ofNat n) = (n : Int) := rfl
              omega
            | negSucc n =>
              have e : (Int.negSucc n).tdiv 8 = -(((n + 1) / 8 : Nat) : Int) := rfl
              rw [e]
              have : (Int.negSucc n) = -((n : Int) + 1) := by omega
              omega
          have d64 : -9223372036854775808 ≤ x.tdiv 64 ∧ x.tdiv 64 ≤ 9223372036854775807 := by
            cases x with
            | ofNat n =>
              have e : (Int.ofNat n).tdiv 64 = ((n / 64 : Nat) : Int) := rfl
              rw [e]
              have : (Int.ofNat n) = (n : Int) := rfl
              omega
            | negSucc n =>
              have e : (Int.negSucc n).tdiv 64 = -(((n + 1) / 64 : Nat) : Int) := rfl
              rw [e]
              have : (Int.negSucc n) = -((n : Int) + 1) := by omega
              omega
          have w8 : IntKind.i64.wrap (x.tdiv 8) = x.tdiv 8 := by rw [IntWalk.i64_in _ d8]
          have w64 : IntKind.i64.wrap (x.tdiv 64) = x.tdiv 64 := by rw [IntWalk.i64_in _ d64]
          have i1 : (0 : Int) ≤ (j : Int) := by omega
          have i2 : (j : Int) < (m : Int) := by omega
          have HLJ := Lib.hid hlj
          clear hcell hx hxw hr1 hr2 hr3 hlow d8 d64 hlj x0
          go_wp2_with fail
          refine (HR1.out _).mono ?_
          rintro e w' ⟨rfl, rfl⟩
          go_wp2_with fail
          refine (HR2.out _).mono ?_
          rintro e w' ⟨rfl, rfl⟩
          go_wp2_with fail
          refine (HR3.out _).mono ?_
          rintro e w' ⟨rfl, rfl⟩
          go_wp2_with fail
          rename World => wq
          obtain ⟨wp, hwp⟩ : ∃ wp, wp = wq.alloc (.cells #[.int .i64 (1 + (r1 : Int)), .int .i64 (1 + (r2 : Int)), .int .i64 (r3 : Int)] 53) := ⟨_, rfl⟩
          have hfp : Fr (fun _ => False) wq wp := by rw [hwp]; exact (Fr.refl _ _).alloc _
          obtain ⟨pb, hpb⟩ : ∃ pb, wq.heap.size = pb := ⟨_, rfl⟩
          have p0 : wp.cell? ⟨pb, 0, none⟩ = some (.int .i64 (1 + (r1 : Int))) := by rw [hwp, ← hpb]; simp [go_sem]
          have p1 : wp.cell? ⟨pb, 1, none⟩ = some (.int .i64 (1 + (r2 : Int))) := by rw [hwp, ← hpb]; simp [go_sem]
          have p2 : wp.cell? ⟨pb, 2, none⟩ = some (.int .i64 (r3 : Int)) := by rw [hwp, ← hpb]; simp [go_sem]
          have HP0 := Lib.hid p0
          have HFP := Lib.hid hfp
          have HPB := Lib.hid hpb
          have hpl : pb < wp.heap.size := World.block_lt_of_cell? wp _ p0
          rw [← hwp, hpb]
          clear hwp hfp hpb p0 HR1 HR2 HR3
          go_cut [16] (fun v16 wx => ∃ g, v16 = .slice (some ⟨g, 0, none⟩) 3 3 ∧ Hid (wp.heap.size ≤ g ∧ g < wx.heap.size ∧ Fr (fun _ => False) wp wx ∧ ∀ q u, ([.int .i64 6, .int .i64 ((1 + (r2 : Int)) * 1000 + 1), .string ⟨#[]⟩, .slice none 0 0, .int .i64 2, .int .i64 (100 * (j : Int)), .string ⟨#[]⟩, .slice none 0 0, .int .i64 2, .int .i64 (r3 : Int), .string ⟨#[]⟩, .slice none 0 0] : List Value)[q]? = some u → wx.cell? ⟨g, q, none⟩ = some u))
          case first =>
            go_region_held3 (fun w => w.cell? ⟨pb, 1, none⟩ = some (.int .i64 (1 + (r2 : Int))) ∧ w.cell? ⟨pb, 2, none⟩ = some (.int .i64 (r3 : Int)))
              (first | exact ⟨p1, p2⟩ | exact ⟨pa1, pa2⟩ | exact ⟨pc1, pc2⟩ | go_keep)
              (first
                | (go_at_call 10; refine (rvref_any _ _).mono ?_; rintro e wa ⟨rfl, hfa⟩; have HFA := Lib.hid (show Fr (fun _ => False) wp wa from (Fr.refl _ wp).drew.trans' hfa); have pa1 := HFA.out.cell p1 (fun h => h); have pa2 := HFA.out.cell p2 (fun h => h); clear hfa)
                | (go_at_call 51; refine (rvint_any _ _).mono ?_; rintro e wb ⟨rfl, hfb⟩; have HFC := Lib.hid (show Fr (fun _ => False) wp wb from (by first | exact HFC.out.trans' (Fr.of_below hfb) | exact HFA.out.trans' (Fr.of_below hfb))); have pc1 := HFC.out.cell p1 (fun h => h); have pc2 := HFC.out.cell p2 (fun h => h); clear hfb))
            all_goals
              go_wp2_with fail
              go_meet
              refine ⟨_, rfl, Lib.hid ⟨HFC.out.size, by simp, HFC.out.trans' ((Fr.refl _ wb).alloc _), fun q u hu => ?_⟩⟩
              have e1 : IntKind.i64.wrap (IntKind.i64.wrap ((1 + (r2 : Int)) * 1000) + 1) = (1 + (r2 : Int)) * 1000 + 1 := by
                rw [IntWalk.i64_in ((1 + (r2 : Int)) * 1000) ⟨by omega, by omega⟩, IntWalk.i64_in _ ⟨by omega, by omega⟩]
              have e2 : IntKind.i64.wrap (100 * (j : Int)) = 100 * (j : Int) := by
                rw [IntWalk.i64_in _ ⟨by omega, by omega⟩]
              rw [e1, e2]
              have h1 := cell_newL wb _ 36 wb.heap.size rfl q u hu
              rw [Addr.add_lit, Nat.zero_add] at h1
              exact h1
          case rest =>
            obtain ⟨g, rfl, hcut⟩ := hcut
            obtain ⟨hg1, hg2, hfw, hgc⟩ := hcut.out
            rename World => wc
            have HG := Lib.hid hgc
            have HFW := Lib.hid (HFP.out.trans' hfw)
            have k0 := hfw.cell HP0.out (fun h => h)
            have k1 := hfw.cell p1 (fun h => h)
            have k2 := hfw.cell p2 (fun h => h)
            obtain ⟨X, Mc, h1, h2, h3, ⟨vl3, M3, Pn3, hcq0⟩, he⟩ := HTC.out
            have hpbM : ¬ Mc pb := fun hm => by have := hcq0.xlt _ (hcq0.mx _ hm).1; have := HPB.out; omega
            have hcq := hcq0.new HFW.out
            have hok := pumps_ok hN.2 (ps := ps) (by rw [HPL.out]; omega) HPO.out j (by rw [HPL.out]; exact hj)
            have hr1N : r1 < N := by have := (HPO.out _ (plN_mem (k := j) (by rw [HPL.out]; exact HLJ.out))).1; rw [HPJ.out] at this; exact this
            have hr2N : r2 < N ∧ r3 ≤ 8 := by have := (HPO.out _ (plN_mem (k := j) (by rw [HPL.out]; exact HLJ.out))).2; rw [HPJ.out] at this; exact this
            have hI := hok.nd r1 hr1N
            have hq := pumpQ_le ps r1 j
            have hst : StAt wc (fun _ => True) (some ⟨g, 0, none⟩) 3 (pumpSt j (r1, r2, r3)) := ⟨Nat.le_refl _, by omega, fun _ => ⟨g, 0, rfl, hg2, trivial, fun i hi q u hu => by
              have hq4 : q < 4 := (List.getElem?_eq_some_iff.1 hu).1
              have e2 : ((100 * j : Nat) : Int) = 100 * (j : Int) := by omega
              have e1 : (((r2 + 1) * 1000 + 1 : Nat) : Int) = (1 + (r2 : Int)) * 1000 + 1 := by omega
              refine hgc (0 + i * 4 + q) u ?_
              have hi3 : i < 3 := hi
              match i, hi3, q, hq4, hu with
              | 0, _, 0, _, hu => rw [← hu]; show some (Value.int .i64 6) = some (Value.int .i64 6); rfl
              | 0, _, 1, _, hu => rw [← hu]; show some (Value.int .i64 _) = some (Value.int .i64 (((r2 + 1) * 1000 + 1 : Nat) : Int)); rw [e1]
              | 0, _, 2, _, hu => rw [← hu]; rfl
              | 0, _, 3, _, hu => rw [← hu]; rfl
              | 1, _, 0, _, hu => rw [← hu]; rfl
              | 1, _, 1, _, hu => rw [← hu]; show some (Value.int .i64 _) = some (Value.int .i64 ((100 * j : Nat) : Int)); rw [e2]
              | 1, _, 2, _, hu => rw [← hu]; rfl
              | 1, _, 3, _, hu => rw [← hu]; rfl
              | 2, _, 0, _, hu => rw [← hu]; rfl
              | 2, _, 1, _, hu => rw [← hu]; rfl
              | 2, _, 2, _, hu => rw [← hu]; rfl
              | 2, _, 3, _, hu => rw [← hu]; rfl⟩⟩
            have hpr := pump_rv (n := N) (i := j) (p := (r1, r2, r3)) (by omega) hr2N
            have hsp := cspawn_any hcq (i := r1) (by rw [hok.cn]; exact hr1N) pumpS (pumpSt j (r1, r2, r3)) _ (fun _ => True) (some ⟨g, 0, none⟩) 3 hpr.1 ⟨fun _ => rfl, (by show (3 : Nat) ≤ 10; omega), fun i => ?_⟩ hst hI.has (by rw [hI.len]; omega) (by rw [hI.sp]; omega) (by have := hI.pot; omega) (by omega) (by rw [hok.hn]; omega)
            · obtain ⟨rf, hrf⟩ : ∃ rf, ((pumpsC N ps j).nd r1).id * 1000 + ((pumpsC N ps j).nd r1).spawned + 1 = rf := ⟨_, rfl⟩
              have e1 : (r1 : Int) + 1 = 1 + (r1 : Int) := by omega
              have e2 : (⟨(pumpsC N ps j).n, updN (pumpsC N ps j).nd r1 (spawnN ((pumpsC N ps j).nd r1) pumpS (pumpSt j (r1, r2, r3))).1, (pumpsC N ps j).cnt, (pumpsC N ps j).tab, fun x => (pumpsC N ps j).held x || x == ((pumpsC N ps j).nd r1).id * 1000 + ((pumpsC N ps j).nd r1).spawned + 1, (pumpsC N ps j).hn + 1⟩ : CqS) = pumpsC N ps (j + 1) := by
                show _ = spawnC (pumpsC N ps j) (plN ps j).1 pumpS (pumpSt j (plN ps j))
                rw [HPJ.out]
                rfl
              rw [e2, e1, hrf] at hsp
              have HSP := Lib.hid hsp
              have HH := Lib.hid (And.intro h1 (And.intro h2 (And.intro h3 (And.intro hcq he))))
              have HPM := Lib.hid hpbM
              have HK := Lib.hid (And.intro k0 (And.intro k1 k2))
              have HSW := Lib.hid (show s ≤ wc.heap.size from Nat.le_trans HTC.out.sz HFW.out.size)
              have HOW := Lib.hid (HFW.out.row HO.out (fun _ _ h => h))
              have HBW := Lib.hid (HB.out.trans (HFW.out.below (fun _ h => h.elim) HTC.out.sz))
              unfold pumpS at HSP
              clear h1 h2 h3 hcq0 hcq he hok hI hsp e1 e2 hrf hgc hfw hcut hst hpr hpbM hq hg1 p1 p2 hcj HTC HO HB HR hA
              go_wp2_with fail
              refine HSP.out.mono ?_
              rintro e w2 ⟨rfl, X2, Mc2, hg2, hc2⟩
              obtain ⟨ht2, hf2⟩ := RvcC.call HH.out.1 HH.out.2.1 HH.out.2.2.1 HH.out.2.2.2.1 HH.out.2.2.2.2 HSW.out hg2 hc2
              have HT2 := Lib.hid ht2
              have HB2 := Lib.hid (HBW.out.trans (hf2.below (fun k hk => hk.1) HSW.out))
              have l0 := hg2.fr.cell HK.out.1 HPM.out
              have l1 := hg2.fr.cell HK.out.2.1 HPM.out
              have l2 := hg2.fr.cell HK.out.2.2 HPM.out
              have HO2 := Lib.hid (hg2.fr.row HOW.out (fun k hk hm => (HH.out.2.2.2.2 k hk).2.1 hm))
              have HML := Lib.hid (show (ps.take j).length = j from by rw [List.length_take, HPL.out]; have := HLJ.out; omega)
              have HO3 := Lib.hid (show w2.ownsRow s 53 3 (.slice A' j c') j (flatC (plC (ps.take j)) j) from by have := HO2.out; rw [HML.out] at this; exact this)
              have hs2 := HT2.out.sz
              have hpb2 : pb < w2.heap.size := World.block_lt_of_cell? w2 _ l0
              clear hg2 hc2 ht2 hf2 HSP HH k0 k1 k2
              have hj6 : j < 6 := by have := HLJ.out; omega
              go_wp2_with (at_builtin; go_loud (refine wpList_append_own_at _ rfl _ _ 48 rfl s 53 ipl _ 3 24 Tryz.underlying48 hipl zp0 zp1 zp2 rfl (by omega) (.slice A' j c') j (flatC (plC (ps.take j)) j) rfl ((Fr.refl (fun _ => False) w2).alloc _ |>.row HO3.out (fun _ _ h => h)) ⟨w2.heap.size, 0, none⟩ 1 1 [.int .i64 (1 + (r1 : Int)), .int .i64 (1 + (r2 : Int)), .int .i64 (r3 : Int)] rfl rfl (cell_newL _ _ _ _ rfl) (by intro u hu; simp at hu; rcases hu with rfl | rfl | rfl <;> rfl) (by unfold maxLen; omega) (by omega) (by simp; omega) ?_; intro v5 w5 hown5 hgrow5 _ hat5; obtain ⟨A5, c5, rfl, -, -, -⟩ := own_any hown5; have HO5 := Lib.hid hown5; have HG5 := Lib.hid hgrow5; have HA5 := Lib.hid hat5; clear hown5 hgrow5 hat5))
              all_goals
                refine ⟨⟨j + 1, A5, c5, by have := HLJ.out; omega, by go_num, rfl, Lib.hid ?_, Lib.hid ?_, Lib.hid ?_⟩, by have := HLJ.out; simp [intOf]; omega⟩
                · unfold OwnPl
                  have htk : ps.take (j + 1) = ps.take j ++ [(r1, r2, r3)] := by
                    have hm' : j < ps.length := by rw [HPL.out]; exact HLJ.out
                    rw [List.take_add_one, List.getElem?_eq_getElem hm']
                    have : ps[j] = (r1, r2, r3) := by
                      rw [← HPJ.out]
                      unfold plN
                      rw [List.getD_eq_getElem?_getD, List.getElem?_eq_getElem hm']
                      rfl
                    rw [this]
                    rfl
                  have e1 := pl_snoc (ps.take j) (r1, r2, r3)
                  rw [← htk, HML.out] at e1
                  have hl1 : (ps.take (j + 1)).length = j + 1 := by rw [List.length_take, HPL.out]; have := HLJ.out; omega
                  rw [e1, hl1]
                  have e2 : ((r1 + 1 : Nat) : Int) = 1 + (r1 : Int) := by omega
                  have e3 : ((r2 + 1 : Nat) : Int) = 1 + (r2 : Int) := by omega
                  dsimp only
                  rw [e2, e3]
                  exact HO5.out
                · refine HT2.out.app ((Fr.refl (fun _ => False) w2).alloc _) HG5.out (Nat.le_trans HB0.out (by have := HS.out; omega)) ?_
                  rcases HA5.out with e | e
                  · exact .inl e
                  · refine .inr ⟨_, e, by simp, (HO5.out.lt _ e).2⟩
                · exact below_grown (HB2.out.alloc (by have := HB2.out.size; have := HS.out; omega) _) (by have := HS.out; simp; omega) HG5.out (fun k hk => by have := (HO3.out.lt k hk).1; omega)
            · show (Lit.int .i64 (stN (pumpSt j (r1, r2, r3)) i).2).wf = true
              have hw : ∀ z : Nat, z < 100000 → (Lit.int .i64 (z : Int)).wf = true := fun z hz => Wf.of (by omega) (by omega)
              match i with
              | 0 => exact hw ((r2 + 1) * 1000 + 1) (by omega)
              | 1 => exact hw (100 * j) (by omega)
              | 2 => exact hw r3 (by omega)
              | i + 3 => exact hw 0 (by omega)
        · obtain rfl : m = j := by omega
          have hd : decide ((m : Int) < (m : Int)) = false := decide_eq_false (by omega)
          have HFIN := Lib.hid (show RvcPost X0 b0 N (plansT N F (min n0 6)) W (.returned (.tuple #[.pointer (some ⟨bl .P, 0, none⟩), .slice A' m c', .bool true])) wj from by
            rw [HM.out, HPS.out]
            have hs := HS.out
            have hp := HPL.out
            refine ⟨bl, pn, A', c', by rw [hp], ?_, ?_, by rw [hs]; exact HB.out⟩
            · have h1 := HO.out
              rw [List.take_of_length_le (by rw [hp]; exact Nat.le_refl _)] at h1
              rw [hs, hp]
              exact h1
            · rw [hs, hp]
              exact HTC.out)
          clear HTC HO HB
          go_wp2_with fail
          refine bodyPost_ret (v := .tuple #[.pointer (some ⟨bl .P, 0, none⟩), .slice A' m c', .bool true]) (by simp [results, Tryz.results18, go_sem]) rfl ?_
          exact HFIN.out
end
end Go.Proofs.YthgbcgphkddmgaaGreat
namespace Go.Proofs.YthgbcgphkddmgaaGreat
open Go.RowKit Go.Maps
set_option linter.unusedVariables false
set_option linter.unusedSimpArgs false
section
variable {w w' : World} {X X' Mc D : Nat → Prop} {base T T' : Nat} {bl : CBk → Nat} {pn : Nat → Nat} {rv rv' : RBk → Value} {Bd Bd' : Nat → Prop} {M : Nat → Nat → Prop} {Pn : Nat → Int → Nat} {C C' : GcS}
theorem GcG.more_log (h : GcG w X Mc base T bl pn rv Bd M Pn C) {v' : Value} {xs : List Value} {WB w5 : World} (hB : Fr (fun _ => False) w WB) (h5 : WB.grownBy w5 (rv .Log).ownBlock) (hr : w5.ownsRow base 106 4 v' (C.ll + 1) xs) (hat : v'.ownBlock = (rv .Log).ownBlock ∨ ∃ g, v'.ownBlock = some g ∧ w.heap.size ≤ g) :
    ∃ X' Mc', Gr X Mc w X' Mc' (w5.setCell ⟨bl .P, 8, none⟩ v') ∧ GcG (w5.setCell ⟨bl .P, 8, none⟩ v') X' Mc' base T bl pn (updR rv .Log v') Bd M Pn { C with ll := C.ll + 1 } := by
  have hPlt : bl .P < w.heap.size := h.mlt _ (h.own .P trivial).1
  have hPv : ¬ (rv .Log).ownBlock = some (bl .P) := fun e => (h.row .Log trivial _ e).2.2.1 .P trivial rfl
  have hf5 : Fr (fun b => (rv .Log).ownBlock = some b) w w5 := Fr.trans' (S := fun b => (rv .Log).ownBlock = some b) (hB.weak (fun _ h => h.elim)) (Fr.of_grown h5 (fun b hb => .inl hb))
  have hs : Fr (fun b => b = bl .P) w5 (w5.setCell ⟨bl .P, 8, none⟩ v') := Fr.setAt (Fr.refl _ w5) v'
  have hf6 : Fr (fun b => b = bl .P ∨ (rv .Log).ownBlock = some b) w (w5.setCell ⟨bl .P, 8, none⟩ v') := Fr.trans' (S := fun b => b = bl .P ∨ (rv .Log).ownBlock = some b) (hf5.weak (fun b hb => .inr hb)) (hs.weak (fun b hb => .inl hb))
  have hp : GcP w bl C.n (rv .Air) (rv .Log) := h.cc .P trivial
  obtain ⟨ca, p0⟩ := hp.c0
  obtain ⟨cb, p1⟩ := hp.c1
  have hvP : ∀ b, v'.ownBlock = some b → b ≠ bl .P := fun b hb e => by
    rcases hat with e1 | ⟨g, e1, hg⟩
    · rw [e1] at hb; rw [e] at hb; exact hPv hb
    · rw [e1] at hb; injection hb with hb; omega
  exact h.logged hf6 ⟨⟨ca, set_other (hf5.cell p0 hPv) (by decide)⟩, ⟨cb, set_other (hf5.cell p1 hPv) (by decide)⟩, set_other (hf5.cell hp.c2 hPv) (by decide), set_other (hf5.cell hp.c3 hPv) (by decide), set_other (hf5.cell hp.c4 hPv) (by decide), set_other (hf5.cell hp.c5 hPv) (by decide), set_other (hf5.cell hp.c6 hPv) (by decide), set_other (hf5.cell hp.c7 hPv) (by decide), set_this (hf5.cell hp.c8 hPv), set_fz (fun o => (hf5.frozen hPlt hPv).trans (hp.fz o))⟩ (hs.row hr (fun b hb hd => hvP b hb hd)) hat
def GTurnPost (X Mc : Nat → Prop) (base T : Nat) (bl : CBk → Nat) (pn : Nat → Nat) (C' : GcS) (er : Int) (w : World) (e : Ending) (w' : World) : Prop :=
  (∃ r, e = .returned (.tuple #[.int .i64 r, .int .i64 er])) ∧ ∃ X' Mc', Gr X Mc w X' Mc' w' ∧ GcAt w' X' Mc' base (T + 60000000) bl pn C'
set_option maxRecDepth 100000 in
set_option maxHeartbeats 4000000 in
theorem gturn_any (h : GcG w X Mc base T bl pn rv Bd M Pn C) {i : Nat} (hi : i < C.n) (L : List FL) (hout : (turnN (C.nd i)).1.out = L.map flT) (hL : ∀ f, f ∈ L → f.ok ∧ ∃ k, k < C.n ∧ k ≠ i ∧ f.dst / 1000 = k + 1) (hid : (turnN (C.nd i)).1.id = (i : Int) + 1) (hwt : ∀ k, k < C.n → ∀ x, x ∈ C.wt i k → x.ok) (hlen : ∀ k, k < C.n → (C.tr i k).length + (C.wt i k).length + L.length ≤ 1000000) (hT : T + 200000000 ≤ 1000000000000) (hll : C.ll ≤ 1000000) :
    Calls Tryz.prog 12 #[.pointer (some ⟨bl .P, 0, none⟩), .int .i64 ((i : Int) + 1)] w (GTurnPost X Mc base T bl pn (turnS i C) (turnN (C.nd i)).2.2 w) := by
  have h8 := h.n8
  obtain ⟨ca, c0⟩ := (show GcP w bl C.n (rv .Air) (rv .Log) from h.cc .P trivial).c0
  have HAT := Lib.hid (at_any (bl .P) C.n (bl .Va) ca i (pn i) ((i : Int) + 1) w c0 hi (by omega) rfl ((show ∀ i, i < C.n → _ from h.cc .Va trivial) i hi))
  have HTH := Lib.hid (there_any (bl .P) C.n ca _ ((i : Int) + 1) w c0 (by omega) (by omega))
  have HTU := Lib.hid (turn_any (h.nd i hi) hT)
  have HH := Lib.hid h
  have HO := Lib.hid hout
  have HID := Lib.hid hid
  have HTS := Lib.hid (show turnS i C = if (turnN (C.nd i)).2.2 = 0 then flowS i { C with nd := updN C.nd i (turnN (C.nd i)).1, ll := C.ll + 1 } (outL (turnN (C.nd i)).1.out) else { C with nd := updN C.nd i (turnN (C.nd i)).1 } from rfl)
  have HFA := Lib.hid (And.intro hL (And.intro hwt hlen))
  clear h c0 hout hid hL hwt hlen
  go_enter Tryz.func12, Tryz.ntmps12
  go_wp2_with fail
  refine HTH.out.mono ?_
  rintro e w1 ⟨rfl, rfl⟩
  go_wp2_with fail
  refine HAT.out.mono ?_
  rintro e w1 ⟨rfl, rfl⟩
  go_wp2_with fail
  refine HTU.out.mono ?_
  rintro e w2 ⟨rfl, P', X2, M2, hg, hN⟩
  have HC := Lib.hid (HH.out.node hi hg hN (by omega) HID.out)
  have HG := Lib.hid (Gr.gc HH.out hi hg)
  obtain ⟨er, her⟩ : ∃ er, (turnN (C.nd i)).2.2 = er := ⟨_, rfl⟩
  obtain ⟨rr, hrr⟩ : ∃ rr, (turnN (C.nd i)).2.1 = rr := ⟨_, rfl⟩
  rw [her] at HTS
  rw [her, hrr]
  have HER := Lib.hid her
  clear hg hN her hrr HTU HTH HAT
  by_cases e0 : er = 0
  · subst e0
    have c8 := (show GcP w2 bl C.n (rv .Air) (rv .Log) from HC.out.cc .P trivial).c8
    have hfz := (show GcP w2 bl C.n (rv .Air) (rv .Log) from HC.out.cc .P trivial).fz
    have hpl : bl .P < w2.heap.size := World.block_lt_of_cell? w2 _ c8
    obtain ⟨xs, hlg⟩ : ∃ xs, w2.ownsRow base 106 4 (rv .Log) C.ll xs := HC.out.cr .Log trivial
    obtain ⟨vl, hvl⟩ : ∃ vl, rv .Log = vl := ⟨_, rfl⟩
    have HVL := Lib.hid hvl
    rw [hvl] at c8 hlg
    obtain ⟨ll, hl0⟩ : ∃ ll, C.ll = ll := ⟨_, rfl⟩
    have HLL := Lib.hid hl0
    rw [hl0] at hlg hll
    obtain ⟨A9, c9, rfl, -, -, -⟩ := own_any hlg
    have HLG := Lib.hid hlg
    have hvP : ¬ (Value.slice A9 ll c9).ownBlock = some (bl .P) := fun e => (HC.out.row .Log trivial _ (by rw [HVL.out]; exact e)).2.2.1 .P trivial rfl
    have hbase : base ≤ w2.heap.size := HC.out.bw
    obtain ⟨i0, hi0, hz0, hzs, hzb⟩ := info_parts infoEv
    have hal : ∀ (r : List Value), w2.cell? ⟨bl .P, 8, none⟩ = (w2.alloc (.cells r.toArray 106)).cell? ⟨bl .P, 8, none⟩ := fun r => (World.cell?_alloc_lt w2 _ ⟨bl .P, 8, none⟩ hpl).symm
    clear hlg hvl hl0
    go_wp2_with (at_builtin; go_loud (refine wpList_append_own_at _ rfl _ _ 88 rfl base 106 i0 _ 4 32 Tryz.underlying88 hi0 hz0 hzs hzb rfl (by omega) (.slice A9 ll c9) ll xs rfl ((Fr.refl (fun _ => False) w2).alloc _ |>.row HLG.out (fun _ _ h => h)) ⟨w2.heap.size, 0, none⟩ 1 1 [.int .i64 1, .int .i64 ((i : Int) + 1), .int .i64 rr, .int .i64 0] rfl rfl (cell_newL _ _ _ _ rfl) (by intro u hu; simp at hu; rcases hu with rfl | rfl | rfl | rfl <;> rfl) (by unfold maxLen; omega) (by omega) (by simp; omega) ?_; intro v3 w3 hown3 hgrow3 _ hat3; obtain ⟨A3, c3, rfl, -, -, -⟩ := own_any hown3; have HF3 := Lib.hid (show Fr (fun k => (Value.slice A9 ll c9).ownBlock = some k) w2 w3 from ((Fr.refl _ w2).alloc _).trans' (Fr.of_grown hgrow3 (fun b hb => .inl hb))); have HG3 := Lib.hid hgrow3; have k8 := HF3.out.cell c8 hvP; have kf := (HF3.out.frozen hpl hvP).trans (hfz 8); have hpl3 := Nat.lt_of_lt_of_le hpl HF3.out.size; have HO3 := Lib.hid hown3; have HA3 := Lib.hid hat3; clear hown3 hgrow3 hat3 hal))
    all_goals
      obtain ⟨X3, Mc3, hg3, hG3⟩ := HC.out.more_log (v' := .slice A3 (ll + 1) c3) ((Fr.refl (fun _ => False) w2).alloc _) (by rw [HVL.out]; exact HG3.out) (by
        show w3.ownsRow base 106 4 _ (C.ll + 1) _
        rw [HLL.out]
        exact HO3.out) (by
        rw [HVL.out]
        rcases HA3.out with e | e
        · exact .inl e
        · exact .inr ⟨_, e, by simp⟩)
      obtain ⟨W4, hW4⟩ : ∃ W4, W4 = w3.setCell ⟨bl .P, 8, none⟩ (.slice A3 (ll + 1) c3) := ⟨_, rfl⟩
      rw [← hW4] at hg3 hG3
      have hflow := flow_any hG3 (i := i) hi L (by show (updN C.nd i _ i).out = _; rw [updN_self]; exact HO.out) HFA.out.1 HFA.out.2.1 HFA.out.2.2
      have HFL := Lib.hid hflow
      have HW4 := Lib.hid hW4
      have HG4 := Lib.hid (HG.out.trans hg3)
      clear hflow hW4 c8 hfz k8 kf hg3 hG3
      rw [← HW4.out]
      refine HFL.out.mono ?_
      rintro e w5 ⟨rfl, X5, M5, hg5, hc5⟩
      have HG5 := Lib.hid (HG4.out.trans hg5)
      have HC5 := Lib.hid hc5
      clear hg5 hc5 HFL HG4
      go_wp2_with fail
      refine bodyPost_ret (results_two Tryz.results12 _ _) rfl ⟨⟨rr, by rw [HER.out]; rfl⟩, X5, M5, HG5.out, ?_⟩
      rw [HTS.out, if_pos trivial, HO.out, outL_flT]
      exact HC5.out
  · have hne : (er != 0) = true := by simpa using e0
    have HTS2 := Lib.hid (HTS.out.trans (if_neg e0))
    clear e0 HTS
    go_wp2_with fail
    exact bodyPost_ret (results_two Tryz.results12 _ _) rfl ⟨⟨0, by rw [HER.out]; rfl⟩, X2, _, HG.out, by rw [HTS2.out]; exact ⟨_, _, _, _, HC.out⟩⟩
end
end Go.Proofs.YthgbcgphkddmgaaGreat
namespace Go.Proofs.YthgbcgphkddmgaaGreat
open Go.RowKit Go.Maps
set_option linter.unusedVariables false
set_option linter.unusedSimpArgs false
def tickA (a : ActS) : ActS := if a.waits && decide (0 < a.ticks) then { a with ticks := a.ticks - 1 } else a
theorem tickA_ref (a : ActS) : (tickA a).ref = a.ref := by unfold tickA; split <;> rfl
theorem tickA_ok {a : ActS} (h : ActOk a) : ActOk (tickA a) := by unfold tickA; split <;> exact { h with }
/-- those of L have had the tick -/
def tickL (N : NdS) (L : List Int) : NdS := { N with acts := N.acts.map fun a => if a.ref ∈ L then tickA a else a }
theorem tickL_nil (N : NdS) : tickL N [] = N := by
  unfold tickL
  have : (N.acts.map fun a => if a.ref ∈ ([] : List Int) then tickA a else a) = N.acts := by simp
  rw [this]
theorem tickL_all {N : NdS} {L : List Int} (h : ∀ a, a ∈ N.acts → a.ref ∈ L) : tickL N L = tickN N := by
  unfold tickL tickN
  congr 1
  exact List.map_congr_left fun a ha => by rw [if_pos (h a ha)]; rfl
theorem tickL_find {N : NdS} (hs : N.acts.Pairwise fun a b => a.ref < b.ref) {L : List Int} {x : Int} {a : ActS} (ha : N.find x = some a) (hx : x ∉ L) : (tickL N L).find x = some a := by
  obtain ⟨hm, rfl⟩ := find_some ha
  have hr : (tickL N L).acts.map (·.ref) = N.acts.map (·.ref) := by
    unfold tickL
    rw [List.map_map]
    exact List.map_congr_left fun b _ => by
      show (if b.ref ∈ L then tickA b else b).ref = b.ref
      split
      · exact tickA_ref b
      · rfl
  refine find_of_mem (N := tickL N L) (srt_refs hr hs) ?_
  unfold tickL
  rw [List.mem_map]
  exact ⟨a, hm, by rw [if_neg hx]⟩
theorem tickL_set {N : NdS} (hs : N.acts.Pairwise fun a b => a.ref < b.ref) {L : List Int} {x : Int} {a : ActS} (ha : N.find x = some a) (hx : x ∉ L) : (tickL N L).setA (tickA a) = tickL N (L ++ [x]) := by
  obtain ⟨hm, rfl⟩ := find_some ha
  unfold tickL NdS.setA
  dsimp only
  rw [List.map_map]
  congr 1
  refine List.map_congr_left fun b hb => ?_
  show (if ((if b.ref ∈ L then tickA b else b).ref == (tickA a).ref) then tickA a else (if b.ref ∈ L then tickA b else b)) = _
  rw [tickA_ref]
  have e : (if b.ref ∈ L then tickA b else b).ref = b.ref := by
    split
    · exact tickA_ref b
    · rfl
  rw [e]
  by_cases h : b.ref = a.ref
  · have := srt_uniq hs b a hb hm h
    subst this
    rw [if_pos (by simp), if_pos (by simp)]
  · have h' : (b.ref == a.ref) = false := by simpa using h
    rw [h']
    simp [h]
theorem ActG.setTicks {w : World} {X MA : Nat → Prop} {base T p b rb kb : Nat} {ib : Option Nat} {a : ActS} (h : ActG w X base T MA p b rb kb ib a) (hX : X p) (t : Int) : ActG (w.setCell ⟨p, 5, none⟩ (.int .i64 t)) X base T MA p b rb kb ib { a with ticks := t } := by
  have hf : Fr (fun k => k = p) w (w.setCell ⟨p, 5, none⟩ (.int .i64 t)) := Fr.setAt (Fr.refl _ w) _
  have hk : ∀ k, k = p → X k := fun k hk => hk ▸ hX
  obtain ⟨m1, m2, m3, m4, m5⟩ := h.mine
  obtain ⟨a1, a2, a3, a4, a5, a6⟩ := h.ap
  obtain ⟨A2, c2, s1, s2, s3, s4⟩ := h.a2
  obtain ⟨n, k1, k2⟩ := h.kn
  have so : ∀ {o : Nat} {v : Value}, o ≠ 5 → w.cell? ⟨p, o, none⟩ = some v → (w.setCell ⟨p, 5, none⟩ (.int .i64 t)).cell? ⟨p, o, none⟩ = some v := fun hne hc => by
    rw [← hc]
    simp [go_sem]
    first | done | (intro e; exact absurd e.symm (by omega)) | omega
  exact {
    dia := h.dia.fr hf hk (fun k hk => .inl hk) (fun k hk => hk ▸ h.lbp.1) (Nat.le_refl _) (fun e => a1 e.symm) (fun e => a2 e.symm) (fun k hk e => (a6 k hk).1 e)
    a0 := so (by decide) h.a0
    a1 := so (by decide) h.a1
    a2 := ⟨A2, c2, so (by decide) s1, s2, s3, s4.fr hf hk (fun k hk => .inl hk)⟩
    a3 := so (by decide) h.a3
    a4 := so (by decide) h.a4
    a5 := by have := h.a5; simp [go_sem, this]
    a6 := so (by decide) h.a6
    kn := ⟨n, k1.fr hf (fun e => a3 e.symm), k2⟩
    fz := fun o => by simp [go_sem, h.fz]
    mine := h.mine
    ap := h.ap
    lbp := h.lbp }
/-- the end of a round -/
theorem tick_fin {w wr w5 w' : World} {X M MA : Nat → Prop} {base T p mb r : Nat} {P : Int → Nat} {N : NdS} {L : List Int} {x : Int} {g : Int → Option Value} {N' : NdS} (hR5 : RngM w5 mb r g (L ++ [x])) (hf5 : Fr (fun k => k = r) wr w5) (hlt5 : w5.rangeLeft mb r < wr.rangeLeft mb r) (hs5 : w5.heap.size = wr.heap.size)
    (hNd : NodeAt wr (fun k => X k ∨ k = r) M base T p P (tickL N L)) (hFr : Fr M w wr) (hc : wr.cell? ⟨p, 3, none⟩ = some (.map (some mb))) (hMA : ∀ k, MA k → M k ∧ k ≠ p ∧ k ≠ mb) (hMX : ∀ k, M k → X k ∧ base ≤ k) (hXl : ∀ k, X k → k < w.heap.size) (hr : w.heap.size = r) (hmr : mb < r)
    (hb : Gr (fun k => X k ∨ k = r) M w5 (fun k => X k ∨ k = r) (fun k => M k ∨ MA k) w' ∧ NodeAt w' (fun k => X k ∨ k = r) (fun k => M k ∨ MA k) base T p P N') (he : N' = tickL N (L ++ [x])) (hf : Fr MA w5 w') :
    (∃ L, RngM w' mb r g L ∧ NodeAt w' (fun k => X k ∨ k = r) M base T p P (tickL N L) ∧ Fr M w w' ∧ w'.cell? ⟨p, 3, none⟩ = some (.map (some mb))) ∧ w'.rangeLeft mb r < wr.rangeLeft mb r := by
  have hrM : ¬ M r := fun hm => by have := hXl r (hMX r hm).1; omega
  have hpr : ¬ p = r := fun e => hrM (e ▸ hNd.pM.1)
  obtain ⟨k1, k2⟩ := hR5.fr hf (fun h => (hMA _ h).2.2 rfl) (fun h => hrM (hMA _ h).1)
  have eM : (fun k => M k ∨ MA k) = M := funext fun k => propext ⟨fun h => h.elim id fun h => (hMA k h).1, fun h => .inl h⟩
  have hn := hb.2
  rw [eM, he] at hn
  refine ⟨⟨L ++ [x], k1, hn, ?_, hf.cell (hf5.cell hc hpr) (fun h => (hMA _ h).2.1 rfl)⟩, by omega⟩
  exact (hFr.trans hf5 (fun k hk => .inr (by omega))).trans (hf.weak (fun k hk => (hMA k hk).1)) (fun k hk => .inl hk)
set_option maxRecDepth 100000 in
set_option maxHeartbeats 4000000 in
theorem tick_any {w : World} {X M : Nat → Prop} {base T p : Nat} {P : Int → Nat} {N : NdS} (h : NodeAt w X M base T p P N) (ht : ∀ a, a ∈ N.acts → a.ticks ≤ 9223372036854775807) :
    Calls Tryz.prog 58 #[.pointer (some ⟨p, 0, none⟩)] w (NdPost X M base T p P (tickN N) w (.tuple #[])) := by
  have hXl := h.xlt
  have hMX := h.2.2.1
  have HS := Lib.hid h.ok.srt
  have hwf : ∀ x, N.has x = true → Wf x := fun x hx => by
    obtain ⟨a, ha, rfl⟩ := has_iff.1 hx
    exact (h.ok.act a ha).ref
  have HWF := Lib.hid hwf
  have HN := Lib.hid h
  have HTK := Lib.hid ht
  obtain ⟨mb, c3, hmb, hMb, -, -⟩ := h.look
  have hom : OwnM w mb N.acts.length (fun r => if N.has r then some (.pointer (some ⟨P r, 0, none⟩)) else none) := by
    obtain ⟨_, _, _, mb', _, _, _, _, h4, _⟩ := h
    have := h4.c3
    rw [c3] at this
    injection this with this
    injection this with this
    injection this with this
    subst this
    exact h4.am
  have HOM := Lib.hid hom
  have HXL := Lib.hid hXl
  have HMX := Lib.hid hMX
  have hbw : base ≤ w.heap.size := by have := h.pM.2.2; have := h.p_lt; omega
  clear h hXl hMX hwf hom ht
  go_enter Tryz.func58, Tryz.ntmps58
  go_wp2_with (first | (at_range; refine wp_range_M rfl _ 129 143 rfl und_actors mb _ _ rfl HOM.out ?_; intro w0 hrng hfr hsz; have HRNG := Lib.hid hrng; have HFR0 := Lib.hid hfr; have HSZ0 := Lib.hid hsz; clear hrng hfr hsz))
  go_frame
  generalize hgg : (fun r => if N.has r = true then some (Value.pointer (some ⟨P r, 0, none⟩)) else none) = g at *
  have HGG := Lib.hid hgg
  clear hgg
  obtain ⟨r, hr⟩ : ∃ r, w.heap.size = r := ⟨_, rfl⟩
  have HR := Lib.hid hr
  rw [hr] at HRNG
  rw [hr]
  have hmr : mb < r := by omega
  clear hr
  go_loopw [3] (fun v3 wr => ∃ L, RngM wr mb r g L ∧ NodeAt wr (fun k => X k ∨ k = r) M base T p P (tickL N L) ∧ Fr M w wr ∧ wr.cell? ⟨p, 3, none⟩ = some (.map (some mb))) (fun _ wr => wr.rangeLeft mb r)
  case atStart =>
    refine ⟨[], HRNG.out, ?_, HFR0.out.weak (fun _ h => h.elim), HFR0.out.cell c3 (fun h => h)⟩
    rw [tickL_nil]
    exact HN.out.fr HFR0.out (fun k hk => hk.elim) (fun k hk => .inl hk) (fun k hk => by
      rcases hk with hk | hk
      · exact .inl hk
      · exact .inr ⟨by have := HR.out; omega, by have := HR.out; have := HSZ0.out; omega⟩) (fun _ _ h => h)
  case round =>
    obtain ⟨L, hRg, hNd, hFr, hc⟩ := hrel
    have HC := Lib.hid hc
    have HRg := Lib.hid hRg
    have HNd := Lib.hid hNd
    have HFrm := Lib.hid hFr
    clear hRg hNd hFr hc
    go_wp2_with (first
      | (at_next; (refine wp_next_M rfl _ rfl mb r g L rfl HRg.out ?_ ?_; rotate_left; (intro x v w5 hwx hgx hxL hR5 hlt5 hf5 hs5 hen; obtain ⟨a, hfa, hve⟩ : ∃ a, N.find x = some a ∧ v = .pointer (some ⟨P x, 0, none⟩) := (by rw [← HGG.out] at hgx; dsimp only at hgx; by_cases e : N.has x = true; (· rw [if_pos e] at hgx; obtain ⟨a, ha⟩ := Option.isSome_iff_exists.1 e; exact ⟨a, ha, by injection hgx with hgx; exact hgx.symm⟩); (· rw [if_neg e] at hgx; cases hgx)); subst hve; have HFA := Lib.hid hfa; have HXNL := Lib.hid hxL; have HR5 := Lib.hid hR5; have HF5 := Lib.hid hf5; have HLT5 := Lib.hid hlt5; have HS5 := Lib.hid hs5; have hrM : ¬ M r := (fun hm => by have := HXL.out r (HMX.out r hm).1; have := HR.out; omega); have HN5 := Lib.hid (HNd.out.fr (X' := fun k => X k ∨ k = r) hf5 (fun k hk => ⟨.inr hk, by have := HR.out; omega⟩) (fun _ h => h) (fun k hk => .inl hk) (fun k hk e => hrM (e ▸ hk))); obtain ⟨pa, b, rb, kb, ib, MA, mb', hpa, hc3', hA, hMA, -, hback⟩ := HN5.out.act (tickL_find HS.out hfa hxL); subst hpa; have hmbe : mb = mb' := (by have h1 := hf5.cell HC.out (fun e => hrM (e ▸ HN5.out.pM.1)); rw [hc3'] at h1; injection h1 with h1; injection h1 with h1; injection h1 with h1; exact h1.symm); subst hmbe; have hc5 := Lib.hid hc3'; have hi1 : 0 < a.ticks → IntKind.i64.wrap (a.ticks - 1) = a.ticks - 1 := (fun h0 => by have h9 := HTK.out a (find_some hfa).1; rw [IntWalk.i64_in _ ⟨by omega, by omega⟩]); have a4 := hA.a4; have a5 := hA.a5; have hfz := hA.fz; have HA := Lib.hid hA; have HMA := Lib.hid hMA; have HBACK := Lib.hid hback; clear hwx hgx hxL hR5 hf5 hlt5 hs5 hfa hA hMA hback hrM hc3'); rotate_left; (intro hd; have HD := Lib.hid hd; clear hd))))
    · exact bodyPost_end (results_none rfl _ _ _) rfl ⟨rfl, fun k => X k ∨ k = r, M, ⟨HFrm.out, fun k hk => .inl hk, fun k hk => by
        rcases hk with hk | hk
        · exact .inl hk
        · exact .inr (by have := HR.out; omega), fun k hk => .inl hk⟩, by
        have := HNd.out
        rw [tickL_all (fun a ha => by
          have h1 : N.has a.ref = true := has_iff.2 ⟨a, ha, rfl⟩
          exact HD.out a.ref (HWF.out _ h1) (by rw [← HGG.out]; dsimp only; rw [if_pos h1]; rfl))] at this
        exact this⟩
    · rename_i h1 h2
      have e : tickA a = { a with ticks := a.ticks - 1 } := by unfold tickA; rw [h1]; simp [h2]
      have hX : (fun k => X k ∨ k = r) (P x) := .inl (HMX.out _ (HMA.out _ HA.out.mine.1).1).1
      exact tick_fin HR5.out HF5.out HLT5.out HS5.out HNd.out HFrm.out HC.out HMA.out HMX.out HXL.out (by have := HR.out; omega) (by have := HR.out; omega) (HBACK.out (w5.setCell ⟨P x, 5, none⟩ (.int .i64 (a.ticks - 1))) (fun k => X k ∨ k = r) MA T (tickA a) (fun _ h => h) (fun k hk => .inl hk) (fun k hk => .inl hk) (fun k hk => .inl (HMX.out _ (HMA.out _ hk).1).1) ⟨b, rb, kb, ib, by rw [e]; exact HA.out.setTicks hX _⟩ ((Fr.refl MA w5).set (.inl HA.out.mine.1) _) (tickA_ref a) (tickA_ok ((HNd.out.ok).act a (find_some (tickL_find HS.out HFA.out HXNL.out)).1)) (Nat.le_refl _)) (tickL_set HS.out HFA.out HXNL.out) ((Fr.refl MA w5).set (.inl HA.out.mine.1) _)
    · rename_i h1 h2
      have e : tickA a = a := by unfold tickA; rw [h1]; simp; omega
      exact tick_fin HR5.out HF5.out HLT5.out HS5.out HNd.out HFrm.out HC.out HMA.out HMX.out HXL.out (by have := HR.out; omega) (by have := HR.out; omega) (HBACK.out w5 (fun k => X k ∨ k = r) MA T (tickA a) (fun _ h => h) (fun k hk => .inl hk) (fun k hk => .inl hk) (fun k hk => .inl (HMX.out _ (HMA.out _ hk).1).1) ⟨b, rb, kb, ib, by rw [e]; exact HA.out⟩ (Fr.refl MA w5) (tickA_ref a) (tickA_ok ((HNd.out.ok).act a (find_some (tickL_find HS.out HFA.out HXNL.out)).1)) (Nat.le_refl _)) (tickL_set HS.out HFA.out HXNL.out) (Fr.refl MA w5)
    · rename_i h1
      have e : tickA a = a := by unfold tickA; simp [h1]
      exact tick_fin HR5.out HF5.out HLT5.out HS5.out HNd.out HFrm.out HC.out HMA.out HMX.out HXL.out (by have := HR.out; omega) (by have := HR.out; omega) (HBACK.out w5 (fun k => X k ∨ k = r) MA T (tickA a) (fun _ h => h) (fun k hk => .inl hk) (fun k hk => .inl hk) (fun k hk => .inl (HMX.out _ (HMA.out _ hk).1).1) ⟨b, rb, kb, ib, by rw [e]; exact HA.out⟩ (Fr.refl MA w5) (tickA_ref a) (tickA_ok ((HNd.out.ok).act a (find_some (tickL_find HS.out HFA.out HXNL.out)).1)) (Nat.le_refl _)) (tickL_set HS.out HFA.out HXNL.out) (Fr.refl MA w5)
end Go.Proofs.YthgbcgphkddmgaaGreat
