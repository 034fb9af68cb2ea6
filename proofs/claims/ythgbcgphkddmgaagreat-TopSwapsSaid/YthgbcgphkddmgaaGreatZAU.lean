/- One step of a turn. -/
import Derived.Test.YthgbcgphkddmgaaGreatZAR
import Derived.Test.YthgbcgphkddmgaaGreatZAT
import Derived.Deep.DeepCutAuto
import Derived.Deep.RegionLaw
namespace Go.Proofs.YthgbcgphkddmgaaGreat
open Go.RowKit
set_option linter.unusedVariables false
set_option linter.unusedSimpArgs false
theorem setA_self {N : NdS} (hs : N.acts.Pairwise fun a b => a.ref < b.ref) {a : ActS} (ha : a ∈ N.acts) : N.setA a = N := by
  unfold NdS.setA
  have : (N.acts.map fun b => if b.ref == a.ref then a else b) = N.acts := by
    refine (List.map_congr_left fun b hb => ?_).trans (List.map_id _)
    by_cases e : b.ref = a.ref
    · have := srt_uniq hs b a hb ha e
      subst this
      simp
    · have : (b.ref == a.ref) = false := by simpa using e
      rw [this]
      rfl
  rw [this]
theorem goA_ok {a : ActS} (h : ActOk a) : ActOk (goA a).1 ∧ (goA a).1.ref = a.ref ∧ ((goA a).2 = true → (goA a).1.waits = false) := by
  unfold goA
  rcases hw : a.waits with _ | _
  · exact ⟨h, rfl, fun _ => hw⟩
  · exact wakeA_ok h
def NstPost (X M : Nat → Prop) (base T p : Nat) (P : Int → Nat) (N N' : NdS) (b : Bool) (w : World) (e : Ending) (w' : World) : Prop :=
  e = .returned (.bool b) ∧ ∃ P', (∀ x, N.has x = true → P' x = P x) ∧ ∃ X' M', Gr X M w X' M' w' ∧ NodeAt w' X' M' base T p P' N'
theorem NodeAt.fuelc {w : World} {X M : Nat → Prop} {base T p : Nat} {P : Int → Nat} {N : NdS} (h : NodeAt w X M base T p P N) : w.cell? ⟨p, 1, none⟩ = some (.int .i64 (N.fuel : Int)) := by
  obtain ⟨_, _, _, _, _, _, _, _, h4, _⟩ := h
  exact h4.c1
theorem NodeAt.fzp {w : World} {X M : Nat → Prop} {base T p : Nat} {P : Int → Nat} {N : NdS} (h : NodeAt w X M base T p P N) : ∀ o, w.frozen? ⟨p, o, none⟩ = false := by
  obtain ⟨_, _, _, _, _, _, _, _, h4, _⟩ := h
  exact h4.fz
/-- X, and what has come since -/
def XW (X : Nat → Prop) (w W : World) : Nat → Prop := fun k => X k ∨ w.heap.size ≤ k ∧ k < W.heap.size
theorem NodeAt.xw {w W : World} {X M : Nat → Prop} {base T p : Nat} {P : Int → Nat} {N : NdS} (h : NodeAt w X M base T p P N) (hf : Fr (fun _ => False) w W) : NodeAt W (XW X w W) M base T p P N :=
  h.fr hf (fun k hk => hk.elim) (fun k hk => .inl hk) (fun k hk => hk) (fun _ _ h => h)
theorem Gr.xw {w W w2 : World} {X M X2 M2 : Nat → Prop} (h : Gr (XW X w W) M W X2 M2 w2) (hf : Fr (fun _ => False) w W) : Gr X M w X2 M2 w2 := by
  have hz := hf.size
  refine ⟨(hf.weak (fun _ h => h.elim)).trans' h.fr, fun k hk => h.up k (.inl hk), fun k hk => ?_, fun k hk => ?_⟩
  · rcases h.xs k hk with (h | h) | h
    · exact .inl h
    · exact .inr h.1
    · exact .inr (by omega)
  · rcases h.ms k hk with h | h
    · exact .inl h
    · exact .inr (by omega)
/-- the diary's Run, at any world where only new memory has come -/
theorem run_nd {w : World} {X M : Nat → Prop} {base T p : Nat} {P : Int → Nat} {N : NdS} {r : Int} {a : ActS} (h : NodeAt w X M base T p P N) (ha : N.find r = some a) (hw : a.waits = false) : ∃ b, w.cell? ⟨P r, 0, none⟩ = some (.pointer (some ⟨b, 0, none⟩)) ∧ P r < w.heap.size ∧ w.cell? ⟨P r, 1, none⟩ = some (.int .i64 r) ∧
    (∀ W, Fr (fun _ => False) w W → Calls Tryz.prog 117 #[.pointer (some ⟨b, 0, none⟩), .int .i64 (N.fuel : Int)] W fun e w' => e = .returned (.agg (outC (runD N.fuel a.d).2).toArray) ∧ ActNd (XW X w W) M base T p P (N.setA { a with d := (runD N.fuel a.d).1 }) W w' ∧ ((runD N.fuel a.d).2.kind = 7 → (runD N.fuel a.d).1.dk = 7)) := by
  obtain ⟨b, c0, hl, c1, _⟩ := dia_nd h ha
  refine ⟨b, c0, hl, c1, fun W hf => ?_⟩
  have hW := h.xw hf
  obtain ⟨b', d0, _, _, _, _, hc⟩ := dia_nd hW ha
  have e : b = b' := by
    have := hf.cell c0 (fun h => h)
    rw [d0] at this
    injection this with this
    injection this with this
    injection this with this
    injection this with this
    exact this.symm
  subst e
  exact hc W N.fuel (Fr.refl _ W) (by have := h.ok.fuel; omega) hw
theorem infoSaid : (Tryz.prog.info? 75).map (fun i => (i.zero, i.size, i.bytes)) = some (some (.agg #[.int .i64 0, .int .i64 0]), 2, 16) := by kernel_rfl
theorem cells2_one (x y : Int) : ∀ u ∈ ([.int .i64 x, .int .i64 y] : List Value), u.oneCell' = true := by
  intro u hu
  simp at hu
  rcases hu with rfl | rfl <;> rfl
/-- behind Run: the output lies in a box, and the node has turned -/
def MidR (X M : Nat → Prop) (base T p : Nat) (P : Int → Nat) (N2 : NdS) (o : OutS) (w : World) (v : Value) (wx : World) : Prop :=
  ∃ q X' M', v = .pointer (some ⟨q, 0, none⟩) ∧ (∀ j u, (outC o)[j]? = some u → wx.cell? ⟨q, j, none⟩ = some u) ∧ q < wx.heap.size ∧ ¬ M' q ∧ Hid (Gr X M w X' M' wx) ∧ Hid (NodeAt wx X' M' base T p P N2)
theorem midA {w W w2 : World} {X M X2 M2 : Nat → Prop} {base T p t : Nat} {P : Int → Nat} {N2 : NdS} {o : OutS} (h : Gr (XW X w W) M W X2 M2 w2) (hf : Fr (fun _ => False) w W) (hn : NodeAt w2 X2 M2 base T p P N2) : MidR X M base T p P N2 o w (.pointer (some ⟨w2.heap.size, 0, none⟩)) (w2.alloc (.cells (outC o).toArray t)) := by
  refine ⟨w2.heap.size, X2, M2, rfl, fun j u hu => ?_, by simp, fun hm => absurd (hn.xlt _ (hn.2.2.1 _ hm).1) (Nat.lt_irrefl _), Lib.hid ((h.xw hf).trans (Gr.new ((Fr.refl _ _).alloc _))), Lib.hid (hn.new (S := fun _ => False) ((Fr.refl _ _).alloc _) (fun _ h => h))⟩
  have := cell_newL w2 (outC o) t _ rfl j u hu
  rw [Addr.add_lit, Nat.zero_add] at this
  exact this
theorem Fr.setCells {S : Nat → Prop} {w : World} {b : Nat} (hS : S b ∨ w.heap.size ≤ b) : ∀ (vs : List Value) (o : Nat) (w1 : World), Fr S w w1 → Fr S w (w1.setCells b o vs)
  | [], _, _, h => h
  | v :: vs, o, w1, h => Fr.setCells hS vs (o + 1) _ (h.set hS v)
theorem midB {w W w2 : World} {X M X2 M2 : Nat → Prop} {base T p q : Nat} {P : Int → Nat} {N2 : NdS} {o : OutS} (h : Gr (XW X w W) M W X2 M2 w2) (hf : Fr (fun _ => False) w W) (hn : NodeAt w2 X2 M2 base T p P N2) (hq : q = w.heap.size) (hqW : q < W.heap.size) (hb : base ≤ q) (hM : ¬ M q) (hc : ∀ j, j < 8 → (w2.cell? ⟨q, j, none⟩).isSome = true) : MidR X M base T p P N2 o w (.pointer (some ⟨q, 0, none⟩)) (w2.setCells q 0 (outC o)) := by
  have hz := h.fr.size
  have hx : X2 q := h.up q (.inr ⟨by omega, hqW⟩)
  have hg := h.xw hf
  have hw : Fr (fun k => k = q) w2 (w2.setCells q 0 (outC o)) := Fr.setCells (S := fun k => k = q) (.inl rfl) _ _ _ (Fr.refl _ _)
  have hm2 : ¬ M2 q := fun hm => by
    rcases h.ms q hm with hh | hh
    · exact hM hh
    · omega
  refine ⟨q, X2, M2, rfl, fun j u hu => ?_, Nat.lt_of_lt_of_le (by omega) hw.size, hm2, Lib.hid ⟨hg.fr.trans hw (fun k hk => .inr (by omega)), hg.up, hg.xs, hg.ms⟩, Lib.hid (hn.fr hw (fun k hk => hk ▸ ⟨hx, hb⟩) (fun _ h => h) (fun k hk => .inl hk) (fun k hk e => hm2 (e ▸ hk)))⟩
  have hj : j < (outC o).length := (List.getElem?_eq_some_iff.1 hu).1
  have h1 := World.cell?_setCells_in q (outC o) 0 w2 (fun j hj => by rw [Nat.zero_add]; exact hc j hj) j hj
  rw [Nat.zero_add] at h1
  rw [h1, ← hu, List.getElem?_eq_getElem hj]
theorem runD_wait {f : Nat} {d : DiaS} (h : (runD f d).2.kind = 7) : (runD f d).1.dk = 7 := by
  unfold runD at h ⊢
  dsimp only at h ⊢
  rw [if_neg (by omega)]
  exact h
set_option maxRecDepth 100000 in
set_option maxHeartbeats 8000000 in
theorem nstep_any {w : World} {X M : Nat → Prop} {base T p : Nat} {P : Int → Nat} {N : NdS} {r : Int} {a : ActS} (h : NodeAt w X M base T p P N) (ha : N.find r = some a) (hT : T + 10000000 ≤ 1000000000000) :
    Calls Tryz.prog 68 #[.pointer (some ⟨p, 0, none⟩), .pointer (some ⟨P r, 0, none⟩)] w (NstPost X M base (T + 5000) p P N (stepN N r).1 (stepN N r).2 w) := by
  obtain ⟨hm, hr⟩ := find_some ha
  have hok := h.ok.act a hm
  obtain ⟨b0, d0, hpl, d1, -, d4, -⟩ := dia_nd h ha
  have HN := Lib.hid h
  have HA := Lib.hid ha
  have HGO := Lib.hid (goA_ok hok)
  have HWA := Lib.hid hok.ref
  have HS := Lib.hid h.ok.srt
  have HM := Lib.hid hm
  have HT := Lib.hid hT
  have hplt := h.p_lt
  have HFA := Lib.hid (find_setA h.ok.srt ha (goA_ok hok).2.1)
  clear h ha hm hok d0 d1 hT
  go_enter Tryz.func68, Tryz.ntmps68
  go_upto_region 1 with (fail)
  go_cut [17] (fun v17 wx => ∃ X1 M1, v17 = .bool (!(goA a).2) ∧ Hid (Gr X M w X1 M1 wx) ∧ Hid (NodeAt wx X1 M1 base (T + 2000) p P (N.setA (goA a).1)))
  case first =>
    rcases hw : a.waits with _ | _
    · have HW := Lib.hid (show goA a = (a, true) by unfold goA; rw [hw]; rfl)
      rw [hw] at d4
      clear hw
      go_wp2_with fail
      go_meet
      refine ⟨X, M, by rw [HW.out]; rfl, Lib.hid (Gr.refl X M w), Lib.hid ?_⟩
      rw [HW.out, setA_self HS.out HM.out]
      exact HN.out.up (by omega)
    · have HW := Lib.hid (show goA a = wakeA a by unfold goA; rw [hw]; rfl)
      rw [hw] at d4
      clear hw
      go_wp2_with fail
      refine (wake_nd HN.out HA.out (by have := HT.out; omega)).mono ?_
      rintro e w1 ⟨rfl, X1, M1, hg1, hn1⟩
      have HG1 := Lib.hid hg1
      have HN1 := Lib.hid (show NodeAt w1 X1 M1 base (T + 2000) p P (N.setA (goA a).1) by rw [HW.out]; exact hn1)
      rw [← HW.out]
      clear hg1 hn1 d4
      go_wp2_with fail
      go_meet
      exact ⟨X1, M1, rfl, HG1, HN1⟩
  case rest =>
    obtain ⟨X1, M1, rfl, HG1, HN1⟩ := hcut
    clear d4 hpl hplt
    rcases hgo : (goA a).2 with _ | _
    · have HE := Lib.hid (stepN_no HA.out hgo)
      clear hgo
      go_wp2_with fail
      refine bodyPost_ret (v := .bool false) (by simp [results, Tryz.results68, go_sem]) rfl ?_
      rw [HE.out]
      exact ⟨rfl, P, fun _ _ => rfl, X1, M1, HG1.out, HN1.out.up (by omega)⟩
    · have HE := Lib.hid (stepN_go HA.out hgo)
      have HGB := Lib.hid hgo
      obtain ⟨b, k0, hpl1, k1, hrun⟩ := run_nd HN1.out HFA.out (HGO.out.2.2 hgo)
      have HRUN := Lib.hid hrun
      have f1 := HN1.out.fuelc
      have hp1 := HN1.out.p_lt
      have HXL := Lib.hid (show ∀ k, M1 k → k < wc.heap.size from fun k hk => HN1.out.xlt k (HN1.out.2.2.1 k hk).1)
      have HBQ := Lib.hid (show base ≤ wc.heap.size by have := HN1.out.pM.2.2; omega)
      clear hrun hgo
      go_wp2_with fail
      go_cut [5] (fun v5 wx => MidR X1 M1 base (T + 2000) p P ((N.setA (goA a).1).setA (ranA N a)) (runD N.fuel (goA a).1.d).2 wc v5 wx)
      case first =>
        go_region_with (first
          | (go_at_call 117; refine (HRUN.out _ (by (repeat' first | with_reducible exact Fr.refl _ _ | (with_reducible refine Fr.setEq ?_ _) | (with_reducible refine Fr.setNew ?_ _) | with_reducible refine Fr.alloc ?_ _ | with_reducible refine Fr.drewN ?_ _ | with_reducible refine Fr.drew ?_))).mono ?_; rintro e w2 ⟨rfl, ⟨X2, M2, hg2, hn2⟩, h7⟩; have HG2 := Lib.hid hg2; have HN2 := Lib.hid hn2; have hk := (fun q j (h1 : wc.heap.size ≤ q) (h2 : q < _) => (⟨World.cell?_of_block (a := ⟨q, j, none⟩) (hg2.fr.block q h2 (fun hm => by have := HXL.out q hm; omega)), World.frozen?_of_block (a := ⟨q, j, none⟩) (hg2.fr.block q h2 (fun hm => by have := HXL.out q hm; omega))⟩ : _ ∧ _)); have u0 := (fun h => (hk wc.heap.size 0 (by omega) h).1); try simp [go_sem] at u0; have u1 := (fun h => (hk wc.heap.size 1 (by omega) h).1); try simp [go_sem] at u1; have u2 := (fun h => (hk wc.heap.size 2 (by omega) h).1); try simp [go_sem] at u2; have u3 := (fun h => (hk wc.heap.size 3 (by omega) h).1); try simp [go_sem] at u3; have u4 := (fun h => (hk wc.heap.size 4 (by omega) h).1); try simp [go_sem] at u4; have u5 := (fun h => (hk wc.heap.size 5 (by omega) h).1); try simp [go_sem] at u5; have u6 := (fun h => (hk wc.heap.size 6 (by omega) h).1); try simp [go_sem] at u6; have u7 := (fun h => (hk wc.heap.size 7 (by omega) h).1); try simp [go_sem] at u7; have uf := (fun j h => (hk wc.heap.size j (by omega) h).2); try simp [go_sem] at uf; have hl0 := (fun (h : wc.heap.size < _) => Nat.lt_of_lt_of_le h hg2.fr.size); try simp at hl0; clear hk hg2 hn2 h7; simp only [outC]))
        all_goals
          go_wp2_with fail
          go_meet
          first
            | (with_reducible show MidR _ _ _ _ _ _ _ _ _ (Value.pointer (some ⟨w2.heap.size, 0, none⟩)) _
               exact midA HG2.out (by (repeat' first | with_reducible exact Fr.refl _ _ | (with_reducible refine Fr.setEq ?_ _) | (with_reducible refine Fr.setNew ?_ _) | with_reducible refine Fr.alloc ?_ _ | with_reducible refine Fr.drewN ?_ _ | with_reducible refine Fr.drew ?_)) HN2.out)
            | (show MidR _ _ _ _ _ _ _ _ _ (Value.pointer (some ⟨wc.heap.size, 0, none⟩)) (w2.setCells wc.heap.size 0 (outC (runD N.fuel (goA a).1.d).2))
               refine midB HG2.out (by (repeat' first | with_reducible exact Fr.refl _ _ | (with_reducible refine Fr.setEq ?_ _) | (with_reducible refine Fr.setNew ?_ _) | with_reducible refine Fr.alloc ?_ _ | with_reducible refine Fr.drewN ?_ _ | with_reducible refine Fr.drew ?_)) HN2.out rfl (by simp) HBQ.out (fun hm => absurd (HXL.out _ hm) (Nat.lt_irrefl _)) ?_
               intro j hj
               rcases j with _ | _ | _ | _ | _ | _ | _ | _ | j
               · rw [u0]; rfl
               · rw [u1]; rfl
               · rw [u2]; rfl
               · rw [u3]; rfl
               · rw [u4]; rfl
               · rw [u5]; rfl
               · rw [u6]; rfl
               · rw [u7]; rfl
               · omega)
      case rest =>
        obtain ⟨q, X2, M2, rfl, hcq, hqlt, hqM, HG2, HN2'⟩ := hcut
        have HGG := Lib.hid (HG1.out.trans HG2.out)
        have HW2 := Lib.hid (show (ranA N a).waits = false from HGO.out.2.2 HGB.out)
        have HO2 := Lib.hid (HGO.out.1.ran N.fuel (HGO.out.2.2 HGB.out))
        have H72 := Lib.hid (fun (h : (runD N.fuel (goA a).1.d).2.kind = 7) => show (ranA N a).d.dk = 7 from runD_wait h)
        have HF2 := Lib.hid (show ((N.setA (goA a).1).setA (ranA N a)).find r = some (ranA N a) from find_setA HN1.out.ok.srt HFA.out rfl)
        have HHS := Lib.hid (fun x => show ((N.setA (goA a).1).setA (ranA N a)).has x = N.has x by rw [has_setA, has_setA])
        clear HRUN f1 hp1 HXL HBQ k0 k1 hpl1 HG2 HG1 HN1 HFA HGO HS HM
        have HOW := Lib.hid (show OutW (runD N.fuel (goA a).1.d).2 from HO2.out.2)
        have HOK2 := Lib.hid (show ActOk (ranA N a) from HO2.out.1)
        clear HO2
        generalize hO : (runD N.fuel (goA a).1.d).2 = o at *
        generalize hN2 : (N.setA (goA a).1).setA (ranA N a) = N2 at *
        generalize hA2 : ranA N a = a2 at *
        have HN2 := Lib.hid (HN2'.out)
        clear HN2' hO hN2 hA2 HN HA HGB
        obtain ⟨b, c0, hpl, c1, -, c4, -⟩ := dia_nd HN2.out HF2.out
        have hplt := HN2.out.p_lt
        have y0 := hcq 0 _ rfl
        have y1 := hcq 1 _ rfl
        have y2 := hcq 2 _ rfl
        have y3 := hcq 3 _ rfl
        have y4 := hcq 4 _ rfl
        have y5 := hcq 5 _ rfl
        have y6 := hcq 6 _ rfl
        have y7 := hcq 7 _ rfl
        have HWR := Lib.hid (show Wf r from hr ▸ HWA.out)
        have HACT := Lib.hid HN2.out.ok.len
        clear hcq c0 c4
        by_cases h2 : o.kind = 2
        · have HE2 := Lib.hid (show stepN N r = ({ N2 with said := N2.said ++ [(r, o.num)] }, true) by rw [HE.out]; unfold armN; rw [if_pos h2])
          rw [h2] at y0
          clear h2
          obtain ⟨As, cap, sb, c9, hown, hbk, hlen, hsb, hset⟩ := HN2.out.saidRow
          have HOWN := Lib.hid hown
          have HSET := Lib.hid hset
          have HBK := Lib.hid hbk
          have HSB := Lib.hid hsb
          have HLEN := Lib.hid hlen
          have hfzp := HN2.out.fzp
          obtain ⟨i0, hi, jz0, jz1, jz2⟩ := info_parts infoSaid
          have hbw : base ≤ wc.heap.size := by have := HN2.out.pM.2.2; omega
          have hls : N2.said.length ≤ 1000000000000 := by have := HT.out; omega
          clear hown hset hbk hsb hlen
          generalize hln : N2.said.length = ls at *
          have HLN := Lib.hid hln
          clear hln
          go_wp2_with fail
          go_region_law (refine step_append_lies _ (by rfl) _ _ _ (by rfl) base 75 i0 _ 2 16 Tryz.underlying70 hi jz0 jz1 jz2 rfl (by omega) (.slice As ls cap) ls (flatC (saidC N2.said) ls) (by rfl) (HOWN.out.alloc _) ⟨wc.heap.size, 0, none⟩ 1 1 [.int .i64 r, .int .i64 o.num] (by rfl) (by rfl) (cell_newL _ _ _ _ rfl) (cells2_one _ _) (by omega) (by unfold maxLen; omega) (by omega) (by simp; omega) (wc.heap.size + 1) (by simp) ?_; intro g cap5 w5 hown5 hgrow5 hat5 hlt5; have hneb : some p ≠ (Value.slice As ls cap).ownBlock := (fun e => (HSB.out p (HBK.out.symm.trans e.symm)).2 rfl); have x9 := (grown_cell (b := p) (o := 9) hgrow5 (by simp; omega) hneb).trans ((World.cell?_alloc_lt _ _ ⟨p, 9, none⟩ hplt).trans c9); have xf := (grown_frozen (b := p) (o := 9) hgrow5 (by simp; omega) hneb).trans ((grown_frozen (b := p) (o := 9) (World.grownBy_alloc wc _ none) hplt (by simp)).trans (hfzp 9)); have HG5 := Lib.hid hgrow5; have HO5 := Lib.hid hown5; have HA5 := Lib.hid hat5; clear hown5 hgrow5 hat5)
          all_goals
            try simp only [Act.put, List.getElem_toArray, List.getElem_cons_zero, List.getElem_cons_succ, List.setIfInBounds_toArray, List.set_cons_zero, List.set_cons_succ]
            have hfr5 : Fr (fun k => sb = some k) wc w5 := (((Fr.refl _ wc).alloc _).drew).trans (Fr.of_grown (S := fun k => sb = some k) HG5.out (fun k hk => .inl (HBK.out.symm.trans hk))) (fun k h => .inl h)
            have hl1 : (N2.said ++ [(r, o.num)]).length = ls + 1 := by simp [HLN.out]
            obtain ⟨q1, q2⟩ := HSET.out w5 g (.slice (some ⟨g, 0, none⟩) (ls + 1) cap5) (r, o.num) (T + 5000) hfr5 rfl (by rcases HA5.out with h | h; exact .inl (HBK.out.symm.trans h); exact .inr (by omega)) (by rw [saidC_snoc, hl1, HLN.out]; exact HO5.out) (by have := HLEN.out; omega) (by omega)
            have Q1 := Lib.hid q1
            have Q2 := Lib.hid q2
            clear q1 q2 hfr5 hl1
            go_wp2_with fail
            refine bodyPost_ret (v := .bool true) (by simp [results, Tryz.results68, go_sem]) rfl ?_
            rw [HE2.out]
            first
              | exact ⟨rfl, P, fun _ _ => rfl, _, _, HGG.out.trans Q1.out, Q2.out⟩
              | exact ⟨rfl, P, fun _ _ => rfl, _, _, (HGG.out.trans Q1.out).trans (Gr.new ((Fr.refl _ _).drew)), Q2.out.new (S := fun _ => False) ((Fr.refl _ _).drew) (fun _ h => h)⟩
        have b2 : (o.kind == 2) = false := by simpa using h2
        by_cases h3 : o.kind = 3
        · have HE2 := Lib.hid (show stepN N r = (sendN N2 ⟨1, r, o.num, 0, ⟨#[]⟩, vLeaf o.vk o.vn⟩, true) by rw [HE.out]; unfold armN; rw [if_neg h2]; rw [if_pos h3])
          rw [h3] at y0
          have hnum := HOW.out.num h3
          clear h2 h3
          have HS := Lib.hid (fun (W : World) (hf : Fr (fun _ => False) wc W) => send_any (rem_ok 60) ⟨1, r, o.num, 0, ⟨#[]⟩, vLeaf o.vk o.vn⟩ [.int .i64 1, .int .i64 r, .int .i64 o.num, .int .i64 0, .string ⟨#[]⟩, .int .i64 o.vk, .int .i64 o.vn, .string ⟨#[]⟩, .slice none 0 0] (fun _ => True) ((HN2.out.up (T' := T + 2001) (by omega)).new hf (fun _ h => h)) ⟨_, _, _, none, 0, 0, rfl, leaf_V W _ _ _⟩ ⟨HWR.out, hnum, wf0, ⟨⟨by have := HOW.out.vn.low; omega, by have := HOW.out.vn.low; omega⟩, fun i hi => by omega⟩, by simp [vLeaf, VT.many, sumTo]⟩ ⟨show (1 : Int) ≤ 1 by decide, show (1 : Int) ≤ 5 by decide⟩ HACT.out (by have := HN2.out.lim; unfold pot; omega) (by have := HT.out; omega))
          go_wp2_with fail
          go_region_with (first | (go_at_call 118; refine (HS.out _ (by (repeat' first | with_reducible exact Fr.refl _ _ | (with_reducible refine Fr.setEq ?_ _) | (with_reducible refine Fr.setNew ?_ _) | with_reducible refine Fr.alloc ?_ _ | with_reducible refine Fr.drewN ?_ _ | with_reducible refine Fr.drew ?_))).mono ?_; rintro e w5 ⟨⟨rfl, X5, M5, hg5, hn5⟩, -, -⟩; have HG5 := Lib.hid hg5; have HN5 := Lib.hid hn5; clear hg5 hn5))
          all_goals
            go_wp2_with fail
            refine bodyPost_ret (v := .bool true) (by simp [results, Tryz.results68, go_sem]) rfl ?_
            rw [HE2.out]
            exact ⟨rfl, P, fun _ _ => rfl, X5, M5, HGG.out.trans ((Gr.new (by (repeat' first | with_reducible exact Fr.refl _ _ | (with_reducible refine Fr.setEq ?_ _) | (with_reducible refine Fr.setNew ?_ _) | with_reducible refine Fr.alloc ?_ _ | with_reducible refine Fr.drewN ?_ _ | with_reducible refine Fr.drew ?_))).trans HG5.out), HN5.out.up (by omega)⟩
        have b3 : (o.kind == 3) = false := by simpa using h3
        have h5 : ¬ o.kind = 5 := by have := HOW.out.kd; omega
        have b5 : (o.kind == 5) = false := by simpa using h5
        have h6 : ¬ o.kind = 6 := by have := HOW.out.kd; omega
        have b6 : (o.kind == 6) = false := by simpa using h6
        have h4 : ¬ o.kind = 4 := by have := HOW.out.kd; omega
        have b4 : (o.kind == 4) = false := by simpa using h4
        by_cases h7 : o.kind = 7
        · have HE2 := Lib.hid (show stepN N r = (N2.setA (waitA a2 o.num), true) by rw [HE.out]; unfold armN; rw [if_neg h2]; rw [if_neg h3]; rw [if_neg h5]; rw [if_neg h6]; rw [if_neg h4]; rw [if_pos h7])
          rw [h7] at y0
          clear h2 h3 h5 h6 h4
          have h7 := H72.out h7
          have HS := Lib.hid (wait_nd o.num HN2.out HF2.out h7 (by have := HT.out; omega))
          clear h7
          go_wp2_with fail
          refine HS.out.mono ?_
          rintro e w5 ⟨rfl, X5, M5, hg5, hn5⟩
          have HG5 := Lib.hid hg5
          have HN5 := Lib.hid hn5
          clear hg5 hn5 HS
          go_wp2_with fail
          refine bodyPost_ret (v := .bool true) (by simp [results, Tryz.results68, go_sem]) rfl ?_
          rw [HE2.out]
          exact ⟨rfl, P, fun _ _ => rfl, X5, M5, HGG.out.trans HG5.out, HN5.out.up (by omega)⟩
        have b7 : (o.kind == 7) = false := by simpa using h7
        have h8 : ¬ o.kind = 8 := by have := HOW.out.kd; omega
        have b8 : (o.kind == 8) = false := by simpa using h8
        have h9 : ¬ o.kind = 9 := by have := HOW.out.kd; omega
        have b9 : (o.kind == 9) = false := by simpa using h9
        have HE2 := Lib.hid (show stepN N r = (N2, false) by rw [HE.out]; unfold armN; rw [if_neg h2]; rw [if_neg h3]; rw [if_neg h5]; rw [if_neg h6]; rw [if_neg h4]; rw [if_neg h7]; rw [if_neg h8]; rw [if_neg h9])
        clear h2 h3 h5 h6 h4 h7 h8 h9
        go_wp2_with fail
        refine bodyPost_ret (v := .bool false) (by simp [results, Tryz.results68, go_sem]) rfl ?_
        rw [HE2.out]
        exact ⟨rfl, P, fun _ _ => rfl, X2, M2, HGG.out, HN2.out.up (by omega)⟩
end Go.Proofs.YthgbcgphkddmgaaGreat
