/- An actor wakes: the walk. -/
import Derived.Test.YthgbcgphkddmgaaGreatZAP
import Derived.Test.YthgbcgphkddmgaaGreatZAN
namespace Go.Proofs.YthgbcgphkddmgaaGreat
open Go.RowKit Go.Maps
set_option linter.unusedVariables false
set_option linter.unusedSimpArgs false
theorem pickI_some {d : DiaS} {box : List LT} {i : Nat} (hi : i < box.length) (hy : (offerD d (nthL box i).says).2 = true) : ∀ (f a : Nat), a ≤ i → i + 1 ≤ f + a → (∀ j, a ≤ j → j < i → (offerD d (nthL box j).says).2 = false) → pickI d box f a = some i
  | 0, a, h1, h2, h3 => by omega
  | f + 1, a, h1, h2, h3 => by
    unfold pickI
    rw [if_neg (by omega)]
    by_cases e : a = i
    · subst e
      rw [if_pos (show (offerD d (box.getD a zLT).says).2 = true from hy)]
    · rw [if_neg (by rw [show (offerD d (box.getD a zLT).says).2 = false from h3 a (Nat.le_refl _) (by omega)]; decide)]
      exact pickI_some hi hy f (a + 1) (by omega) (by omega) (fun j hj => h3 j (by omega))
theorem pickI_none {d : DiaS} {box : List LT} : ∀ (f a : Nat), (∀ j, a ≤ j → j < box.length → (offerD d (nthL box j).says).2 = false) → pickI d box f a = none
  | 0, a, h => rfl
  | f + 1, a, h => by
    unfold pickI
    split
    · rfl
    · rw [if_neg (by rw [show (offerD d (box.getD a zLT).says).2 = false from h a (Nat.le_refl _) (by omega)]; decide)]
      exact pickI_none f (a + 1) (fun j hj => h j (by omega))
theorem nthL_erase {l : List LT} {i j : Nat} (hi : i < l.length) (hj : j < l.length - 1) : nthL (l.eraseIdx i) j = cutA (nthL l) i j := by
  unfold nthL cutA
  simp only [List.getD_eq_getElem?_getD, List.getElem?_eraseIdx]
  split <;> rfl
theorem says_wf {x : LT} (h : LtWf x) : x.says.wf := by
  obtain ⟨h1, h2, h3, h4, h5⟩ := h
  by_cases hk : x.kind = 2
  · rw [says_two hk]
    refine ⟨⟨by omega, by omega⟩, fun i hi => ?_⟩
    have := h1.low
    have := h3.low
    dsimp only
    split
    · exact ⟨⟨by omega, by omega⟩, fun i hi => by omega⟩
    · exact ⟨⟨by omega, by omega⟩, fun i hi => by omega⟩
  · rw [says_val hk]; exact h4
theorem RdL.congr {w : World} {S : Nat → Prop} {A : Option Addr} {n : Nat} {arg arg' : Nat → LT} (h : RdL w S A n arg) (e : ∀ i, i < n → arg' i = arg i) : RdL w S A n arg' := fun h0 => by
  obtain ⟨b, off, h1, h2, h3, C, h4⟩ := h h0
  exact ⟨b, off, h1, h2, h3, C, fun i hi => by rw [e i hi]; exact h4 i hi⟩
set_option maxRecDepth 100000 in
set_option maxHeartbeats 8000000 in
theorem wake_any (X : Nat → Prop) (base T : Nat) (MA : Nat → Prop) (p b rb kb : Nat) (ib : Option Nat) (a : ActS) (w : World) (H : ActG w X base T MA p b rb kb ib a) (hX : ∀ k, X k → k < w.heap.size) (hMX : ∀ k, MA k → X k) (hb : BoxOk a.box a.pos) (hT : T + 1000000 ≤ 1000000000000) :
    Calls Tryz.prog 116 #[.pointer (some ⟨p, 0, none⟩)] w (ActPost X base (T + 2000) MA p (wakeA a).1 w (.bool (wakeA a).2)) := by
  have HH := Lib.hid H
  have hlt := H.lt.1
  obtain ⟨hp1, hp2, hp3, hp4, hp5, hp6⟩ := H.ap
  obtain ⟨hm1, hm2, hm3, hm4, hm5⟩ := H.mine
  obtain ⟨A2, c2, e2, l2, l3, hL⟩ := H.a2
  have a0 := H.a0
  have a1 := H.a1
  have a3 := H.a3
  have a4 := H.a4
  have a5 := H.a5
  have a6 := H.a6
  have fz := H.fz
  have HL := Lib.hid hL
  have HX := Lib.hid hX
  have HMX := Lib.hid hMX
  have HB := Lib.hid hb
  have hXp := hMX p hm1
  clear H hX hMX hb hL
  have HD := Lib.hid (show ∀ W, Fr (fun _ => False) w W → DiaAt W (fun k => X k ∨ w.heap.size ≤ k) base T b rb ib a.d ∧ RdL W (fun k => ¬ X k) A2 a.box.length (nthL a.box) from fun W hf =>
    ⟨HH.out.dia.wide.fr hf (fun _ h => h.elim) (fun k hk => .inl hk) (fun _ h => h.elim) (Nat.le_refl _) (fun h => h) (fun h => h) (fun _ _ h => h), RdL.fr (X' := X) HL.out hf (fun _ h => h.elim) (fun k hk => .inl hk)⟩)
  have HSL := Lib.hid (show ∀ k, (k = b ∨ k = rb ∨ ib = some k) → k < w.heap.size from fun k hk => by
    obtain ⟨g1, g2, g3⟩ := HH.out.dia.lt
    rcases hk with h | h | h
    · omega
    · omega
    · exact (g3 k h).2)
  have HSL3 := Lib.hid (show b < w.heap.size ∧ rb < w.heap.size ∧ (∀ k, ib = some k → k < w.heap.size) ∧ base ≤ w.heap.size ∧ ∀ k, w.heap.size ≤ k → X k ∨ w.heap.size ≤ k from ⟨HSL.out b (.inl rfl), HSL.out rb (.inr (.inl rfl)), fun k hk => HSL.out k (.inr (.inr hk)), by have := HH.out.lbp.1; omega, fun k hk => .inr hk⟩)
  have HPS := Lib.hid (show ¬ (p = b ∨ p = rb ∨ ib = some p) from fun h => by
    rcases h with h | h | h
    · exact hp1 h
    · exact hp2 h
    · exact (hp6 p h).1 rfl)
  go_enter Tryz.func116, Tryz.ntmps116
  go_wp2_with fail
  have HC := Lib.hid (show ∀ W, Fr (fun _ => False) w W → W.cell? ⟨p, 0, none⟩ = some (.pointer (some ⟨b, 0, none⟩)) ∧ W.cell? ⟨p, 2, none⟩ = some (.slice A2 a.box.length c2) ∧ W.cell? ⟨p, 3, none⟩ = some (.int .i64 (a.pos : Int)) from fun W hf => ⟨hf.cell a0 (fun h => h), hf.cell e2 (fun h => h), hf.cell a3 (fun h => h)⟩)
  have hpn : p ≠ w.heap.size := by omega
  have hpn1 : w.heap.size ≠ p := by omega
  have hpn2 : p ≠ w.heap.size + 1 := by omega
  have hpn3 : w.heap.size + 1 ≠ p := by omega
  have b0 : w.drew.cell? ⟨p, 0, none⟩ = some (.pointer (some ⟨b, 0, none⟩)) := a0
  have b2 : w.drew.cell? ⟨p, 2, none⟩ = some (.slice A2 a.box.length c2) := e2
  have b3 : w.drew.cell? ⟨p, 3, none⟩ = some (.int .i64 (a.pos : Int)) := a3
  go_cut [3, 4, 5, 6] (fun v3 v4 v5 v6 wx => MidW (fun k => X k ∨ w.heap.size ≤ k) base T b rb ib a.d a.box.length a.pos (nthL a.box) w v3 v4 v5 v6 wx)
  case first =>
   go_region_held3 (fun W => W.cell? ⟨p, 0, none⟩ = some (.pointer (some ⟨b, 0, none⟩)) ∧ W.cell? ⟨p, 2, none⟩ = some (.slice A2 a.box.length c2) ∧ W.cell? ⟨p, 3, none⟩ = some (.int .i64 (a.pos : Int)))
    (first | with_reducible exact ⟨b0, b2, b3⟩ | with_reducible exact ⟨g0, g2, g3⟩ | (refine ⟨?_, ?_, ?_⟩ <;> (simp [go_sem, hpw, hpn, hpn1, hpn2, hpn3, g0, g2, g3]; done)) | (refine ⟨?_, ?_, ?_⟩ <;> (simp [go_sem, hlt, hpn, hpn1, hpn2, hpn3, a0, e2, a3]; done)) | go_keep)
    (first
      | (go_at_call 158; refine (take_diary (fun k => X k ∨ w.heap.size ≤ k) base T b rb ib a.d a.box.length c2 a.pos A2 (nthL a.box) (fun k => ¬ X k) _ (by exact (HD.out _ (by (repeat' first | with_reducible exact Fr.refl _ _ | (with_reducible refine Fr.setEq ?_ _) | (with_reducible refine Fr.setNew ?_ _) | with_reducible refine Fr.alloc ?_ _ | with_reducible refine Fr.drewN ?_ _ | with_reducible refine Fr.drew ?_))).1) (.inl (HMX.out rb hm3)) (fun k hk => .inl (HMX.out k (hm5 k hk))) (by omega) l2 l3 (by exact (HD.out _ (by (repeat' first | with_reducible exact Fr.refl _ _ | (with_reducible refine Fr.setEq ?_ _) | (with_reducible refine Fr.setNew ?_ _) | with_reducible refine Fr.alloc ?_ _ | with_reducible refine Fr.drewN ?_ _ | with_reducible refine Fr.drew ?_))).2) HB.out.ok HB.out.many).mono ?_; rintro e w1 ⟨A', n', c', pos', k, f, t, m, s, k2, m2, s2, AA2, n2, cc2, took, rfl, ht⟩; have HT := Lib.hid (show TakR (fun k => X k ∨ w.heap.size ≤ k) base T b rb ib a.d a.box.length a.pos (nthL a.box) _ w1 A' n' c' pos' [.int .i64 k, .int .i64 f, .int .i64 t, .int .i64 m, .string s, .int .i64 k2, .int .i64 m2, .string s2, .slice AA2 n2 cc2] took from ht); have hzz := HT.out.2.2.1.size; simp at hzz; have hpw : p < w1.heap.size := (by omega); have hpS : ¬ (p = b ∨ p = rb ∨ ib = some p) := HPS.out; have g0 := HT.out.2.2.1.cell (HC.out _ (by (repeat' first | with_reducible exact Fr.refl _ _ | (with_reducible refine Fr.setEq ?_ _) | (with_reducible refine Fr.setNew ?_ _) | with_reducible refine Fr.alloc ?_ _ | with_reducible refine Fr.drewN ?_ _ | with_reducible refine Fr.drew ?_))).1 hpS; have g2 := HT.out.2.2.1.cell (HC.out _ (by (repeat' first | with_reducible exact Fr.refl _ _ | (with_reducible refine Fr.setEq ?_ _) | (with_reducible refine Fr.setNew ?_ _) | with_reducible refine Fr.alloc ?_ _ | with_reducible refine Fr.drewN ?_ _ | with_reducible refine Fr.drew ?_))).2.1 hpS; have g3 := HT.out.2.2.1.cell (HC.out _ (by (repeat' first | with_reducible exact Fr.refl _ _ | (with_reducible refine Fr.setEq ?_ _) | (with_reducible refine Fr.setNew ?_ _) | with_reducible refine Fr.alloc ?_ _ | with_reducible refine Fr.drewN ?_ _ | with_reducible refine Fr.drew ?_))).2.2 hpS; clear ht; have hk := HT.out.far (w := w) HSL.out; have HK := Lib.hid hk; have u0 := (fun h => (hk w.heap.size 0 (by omega) h).1); try simp [go_sem] at u0; have u1 := (fun h => (hk w.heap.size 1 (by omega) h).1); try simp [go_sem] at u1; have u2 := (fun h => (hk w.heap.size 2 (by omega) h).1); try simp [go_sem] at u2; have u3 := (fun h => (hk w.heap.size 3 (by omega) h).1); try simp [go_sem] at u3; have u4 := (fun h => (hk w.heap.size 4 (by omega) h).1); try simp [go_sem] at u4; have u5 := (fun h => (hk w.heap.size 5 (by omega) h).1); try simp [go_sem] at u5; have u6 := (fun h => (hk w.heap.size 6 (by omega) h).1); try simp [go_sem] at u6; have u7 := (fun h => (hk w.heap.size 7 (by omega) h).1); try simp [go_sem] at u7; have u8 := (fun h => (hk w.heap.size 8 (by omega) h).1); try simp [go_sem] at u8; have uf := (fun j h => (hk w.heap.size j (by omega) h).2); try simp [go_sem] at uf; have v0 := (fun h => (hk (w.heap.size + 1) 0 (by omega) h).1); try simp [go_sem] at v0; have v1 := (fun h => (hk (w.heap.size + 1) 1 (by omega) h).1); try simp [go_sem] at v1; have v2 := (fun h => (hk (w.heap.size + 1) 2 (by omega) h).1); try simp [go_sem] at v2; have v3 := (fun h => (hk (w.heap.size + 1) 3 (by omega) h).1); try simp [go_sem] at v3; have v4 := (fun h => (hk (w.heap.size + 1) 4 (by omega) h).1); try simp [go_sem] at v4; have v5 := (fun h => (hk (w.heap.size + 1) 5 (by omega) h).1); try simp [go_sem] at v5; have v6 := (fun h => (hk (w.heap.size + 1) 6 (by omega) h).1); try simp [go_sem] at v6; have v7 := (fun h => (hk (w.heap.size + 1) 7 (by omega) h).1); try simp [go_sem] at v7; have v8 := (fun h => (hk (w.heap.size + 1) 8 (by omega) h).1); try simp [go_sem] at v8; have vf := (fun j h => (hk (w.heap.size + 1) j (by omega) h).2); try simp [go_sem] at vf; have hl0 := (fun (h : w.heap.size < _) => Nat.lt_of_lt_of_le h HT.out.2.2.1.size); try simp at hl0; have hl1 := (fun (h : w.heap.size + 1 < _) => Nat.lt_of_lt_of_le h HT.out.2.2.1.size); try simp at hl1; clear hk))
   all_goals
    go_wp2_with fail
    go_meet
    refine MidW.mk HSL3.out HT.out (by (repeat' first | with_reducible exact Fr.refl _ _ | (with_reducible refine Fr.setEq ?_ _) | (with_reducible refine Fr.setNew ?_ _) | with_reducible refine Fr.alloc ?_ _ | with_reducible refine Fr.drewN ?_ _ | with_reducible refine Fr.drew ?_)) ?_ ?_ ?_ ?_ ?_ ⟨?_, ?_, ?_, ?_, ?_, ?_, ?_, ?_, ?_⟩
    · (repeat' first | with_reducible exact Fr.refl _ _ | (with_reducible refine Fr.setIn ?_ (by first | exact Or.inl rfl | exact Or.inr rfl) _) | with_reducible refine Fr.alloc ?_ _ | with_reducible refine Fr.drewN ?_ _ | with_reducible refine Fr.drew ?_)
    · first | (simp; done) | (simp; omega)
    · first | (simp; done) | (simp; omega)
    all_goals first | (simp [go_sem]; done) | (simp [go_sem, hl0, hl1]; done) | (simp [go_sem, *]; done) | skip
  case rest =>
    obtain ⟨q3, q4, A', n', c', pos', k, f, t, m, s, k2, m2, s2, AA2, n2, cc2, took, rfl, rfl, rfl, rfl, HT, hq3, hq3', x0, x1, hy⟩ := hcut
    have hfr := HT.out.2.2.1
    have hpS : ¬ (p = b ∨ p = rb ∨ ib = some p) := HPS.out
    have b0 := hfr.cell a0 hpS
    have b1 := hfr.cell a1 hpS
    have b2 := hfr.cell e2 hpS
    have b3 := hfr.cell a3 hpS
    have b4 := hfr.cell a4 hpS
    have b5 := hfr.cell a5 hpS
    have b6 := hfr.cell a6 hpS
    have bf : ∀ o, wc.frozen? ⟨p, o, none⟩ = false := fun o => (hfr.frozen hlt hpS).trans (fz o)
    have hz := hfr.size
    have hpc : p < wc.heap.size := by omega
    have hpq : p ≠ q3 := by omega
    have hqp : q3 ≠ p := by omega
    have HFr := Lib.hid (show Fr MA w wc from hfr.weak (fun k hk => by
      rcases hk with hk | hk | hk
      · exact hk ▸ hm2
      · exact hk ▸ hm3
      · exact hm5 k hk))
    have HY := Lib.hid hy
    clear a0 a1 e2 a3 a4 a5 a6 fz hy hfr hpS
    have HKN : ∃ n, OwnM wc kb n (knG a.knows) ∧ n ≤ T := by
      obtain ⟨n, h1, h2⟩ := HH.out.kn
      exact ⟨n, h1.fr HT.out.2.2.1 (fun h => by
        rcases h with h | h | h
        · exact hp4 h.symm
        · exact hp5 h.symm
        · exact (hp6 kb h).2 rfl), h2⟩
    obtain ⟨kn, hkn1, hkn2⟩ := HKN
    have HKN := Lib.hid hkn1
    have hkp : kb ≠ p := fun e => hp3 e.symm
    have hkb := HH.out.lt.2
    clear hkn1
    rcases htk : took with _ | _
    · subst htk
      obtain ⟨g1', g2', g3, g4⟩ := HT.out
      rcases g4 with ⟨h, _⟩ | ⟨_, hno, rfl, rfl, hR, hD⟩
      · cases h
      have HR := Lib.hid hR
      have HDD := Lib.hid hD
      have HW := Lib.hid (show wakeA a = if a.ticks = 0 then ({ a with d := lateD a.d, pos := a.box.length, waits := false }, true) else ({ a with pos := a.box.length }, false) by
        unfold wakeA
        rw [pickI_none _ _ hno])
      clear hR hD hno g3
      by_cases ht0 : a.ticks = 0
      · have HW2 := Lib.hid (HW.out.trans (if_pos ht0))
        rw [ht0] at b5
        have HT0 := Lib.hid ht0
        clear ht0
        go_wp2_with fail
        refine (dlate_any X base T b rb ib a.d _ ((HDD.out.less (X' := X) (fun k hk => .inl hk)).fr (S := fun k => k = p) (X' := X) ?_ (fun k hk => hk ▸ hXp) (fun k hk => .inl hk) (fun k hk => hk ▸ HH.out.lbp.1) (Nat.le_refl _) (fun e => hp1 e.symm) (fun e => hp2 e.symm) (fun k hk e => (hp6 k hk).1 e)) (fun k hk => HMX.out k (hm5 k hk)) (by omega)).mono ?_
        · (repeat' first | with_reducible exact HFr.out | with_reducible exact Fr.refl _ _ | (with_reducible refine Fr.setAt ?_ _) | (with_reducible refine Fr.setNew ?_ _) | with_reducible refine Fr.alloc ?_ _ | with_reducible refine Fr.drewN ?_ _ | with_reducible refine Fr.drew ?_)
        rintro e w2 ⟨rfl, ib', hib, hd2, hf2⟩
        have hpS : ¬ (p = b ∨ p = rb ∨ ib = some p) := HPS.out
        have hz2 := hf2.size
        simp at hz2
        have g0 := hf2.cell (b := p) (o := 0) (v := .pointer (some ⟨b, 0, none⟩)) (by simp [go_sem, b0]) hpS
        have g1 := hf2.cell (b := p) (o := 1) (v := .int .i64 a.ref) (by simp [go_sem, b1]) hpS
        have g2 := hf2.cell (b := p) (o := 2) (v := .slice A' a.box.length c') (by simp [go_sem, b2]) hpS
        have g3 := hf2.cell (b := p) (o := 3) (v := .int .i64 (a.box.length : Int)) (by simp [go_sem, b3]) hpS
        have g4 := hf2.cell (b := p) (o := 4) (v := .bool a.waits) (by simp [go_sem, b4]) hpS
        have g5 := hf2.cell (b := p) (o := 5) (v := .int .i64 0) (by simp [go_sem, b5]) hpS
        have g6 := hf2.cell (b := p) (o := 6) (v := .map (some kb)) (by simp [go_sem, b6]) hpS
        have gf : ∀ o, w2.frozen? ⟨p, o, none⟩ = false := fun o => (hf2.frozen (by simp; omega) hpS).trans (by simp [go_sem, bf])
        have hfx : Fr (fun k => (k = p ∨ k = b ∨ k = rb ∨ ib = some k)) wc w2 := (show Fr (fun k => (k = p ∨ k = b ∨ k = rb ∨ ib = some k)) wc _ by (repeat' first | with_reducible exact Fr.refl _ _ | (with_reducible refine Fr.setIn ?_ (Or.inl rfl) _) | with_reducible refine Fr.alloc ?_ _ | with_reducible refine Fr.drewN ?_ _ | with_reducible refine Fr.drew ?_)).trans' (hf2.weak (fun k hk => .inr hk))
        have HF2 := Lib.hid hfx
        have HD2 := Lib.hid hd2
        have HIB := Lib.hid (show ∀ k, ib' = some k → ib = some k ∨ wc.heap.size ≤ k from fun k hk => by simpa using hib k hk)
        clear hf2 hd2 hfx hib b0 b1 b2 b3 b4 b5 b6 bf
        go_wp2_with fail
        refine bodyPost_ret (v := .bool true) (by simp [results, Tryz.results116, go_sem]) rfl ?_
        rw [HW2.out]
        have hfw : Fr (fun k => (k = p ∨ k = b ∨ k = rb ∨ ib = some k)) wc (w2.setCell ⟨p, 4, none⟩ (.bool false)) := HF2.out.setIn (.inl rfl) _
        refine act_done HH.out HX.out HMX.out (ib' := ib') (fun k hk => by rcases HIB.out k hk with h | h; exact .inl h; exact .inr (by omega)) (HD2.out.fr (S := fun k => k = p) (Fr.setAt (Fr.refl _ w2) _) (fun k hk => .inl (hk ▸ hXp)) (fun k hk => .inl hk) (fun k hk => hk ▸ HH.out.lbp.1) (by omega) (fun e => hp1 e.symm) (fun e => hp2 e.symm) (fun k hk e => ?_)) (set_other g0 (by decide)) (set_other g1 (by decide)) (set_other g2 (by decide)) g1' g2' (RdL.frame HR.out (by simp; omega) (fun k hk hlt' => ⟨⟨hk, fun e => ?_⟩, hfw.block k hlt' (fun h => ?_)⟩)) (set_other g3 (by decide)) (set_this g4) (by rw [show a.ticks = 0 from HT0.out]; exact set_other g5 (by decide)) (set_other g6 (by decide)) (HKN.out.fr hfw (fun h => ?_)) (by omega) (set_fz gf) (HFr.out.trans' (hfw.weak (fun k hk => ?_)))
        · rcases HIB.out k hk with h | h
          · exact (hp6 k h).1 e
          · omega
        · rcases HIB.out k e with h | h
          · have := HSL.out k (.inr (.inr h)); omega
          · omega
        · have h2 : w.heap.size ≤ k := hk
          rcases h with h | h
          · omega
          · have := HSL.out k h; omega
        · rcases h with h | h | h | h
          · exact hkp h
          · exact hp4 h.symm
          · exact hp5 h.symm
          · exact (hp6 kb h).2 rfl
        · rcases hk with hk | hk | hk | hk
          · exact hk ▸ hm1
          · exact hk ▸ hm2
          · exact hk ▸ hm3
          · exact hm5 k hk
      · have HW2 := Lib.hid (HW.out.trans (if_neg ht0))
        have ht0' : (a.ticks == 0) = false := by simpa using ht0
        clear ht0
        go_wp2_with fail
        go_ret
        rw [HW2.out]
        have hfw : Fr (fun k => k = p) wc ((wc.setCell ⟨p, 2, none⟩ (.slice A' a.box.length c')).setCell ⟨p, 3, none⟩ (.int .i64 (a.box.length : Int))) := by (repeat' first | with_reducible exact Fr.refl (fun k => k = _) _ | (with_reducible refine Fr.setAt ?_ _) | with_reducible refine Fr.alloc ?_ _ | with_reducible refine Fr.drewN ?_ _ | with_reducible refine Fr.drew ?_)
        refine act_done HH.out HX.out HMX.out (ib' := ib) (fun k hk => .inl hk) ((HDD.out.less (X' := X) (fun k hk => .inl hk)).fr hfw (fun k hk => hk ▸ hXp) (fun k hk => .inl (by rcases hk with h | h; exact h; exact HMX.out k (hm5 k h))) (fun k hk => hk ▸ HH.out.lbp.1) (by omega) (fun e => hp1 e.symm) (fun e => hp2 e.symm) (fun k hk e => (hp6 k hk).1 e)) (by simp [go_sem, b0]) (by simp [go_sem, b1]) (by simp [go_sem, b2]) g1' g2' (RdL.frame HR.out (by simp) (fun k hk hlt' => ⟨⟨hk, fun e => ?_⟩, hfw.block k hlt' (fun h => ?_)⟩)) (by simp [go_sem, b3]) (by simp [go_sem, b4]) (by simp [go_sem, b5]) (by simp [go_sem, b6]) (HKN.out.fr hfw hkp) (by omega) (by intro o; simp [go_sem, bf]) (HFr.out.trans' (hfw.weak (fun k hk => hk ▸ hm1)))
        · have h2 : w.heap.size ≤ k := hk
          have := HSL.out k (.inr (.inr e)); omega
        · have h2 : w.heap.size ≤ k := hk
          omega
    · subst htk
      obtain ⟨g1', g2', g3, g4⟩ := HT.out
      rcases g4 with ⟨_, i, ib', mk, e0, e1, e2, e3, e4, rfl, rfl, hR, hL, hib, hD⟩ | ⟨h, _⟩
      rotate_left
      · cases h
      have hmi := (HB.out.2.2 _ (nthL_mem e2)).2
      have HM4 := Lib.hid (show (nthL a.box i).val.many ≤ 4194304 by have := hmi.2.2.2.2; omega)
      have hsm : (nthL a.box i).says.many ≤ 1003 := by have := says_many (nthL a.box i); have := hmi.2.2.2.2; omega
      have hwf := says_wf hmi
      have HR := Lib.hid hR
      have HDD := Lib.hid hD
      have HW2 := Lib.hid (show wakeA a = ({ a with d := (offerD a.d (nthL a.box i).says).1, box := a.box.eraseIdx i, pos := 0, waits := false, knows := fun x => a.knows x || refsV (nthL a.box i).says x }, true) by
        unfold wakeA
        rw [pickI_some e2 e4 _ _ e1 (by omega) e3]
        rfl)
      have hqp4 : q4 ≠ p := fun e => by
        have := HY.out 0 _ rfl
        rw [e, b0] at this
        cases this
      have HRI := Lib.hid (show RdL wc (fun k => w.heap.size ≤ k ∧ k < mk) A' (a.box.length - 1) (nthL (a.box.eraseIdx i)) from hR.congr (fun j hj => nthL_erase e2 hj))
      have hlen : (a.box.eraseIdx i).length = a.box.length - 1 := by rw [List.length_eraseIdx, if_pos e2]
      have hdk := offerD_dk e4
      have HDK := Lib.hid hdk
      have HWF := Lib.hid hwf
      have HIB := Lib.hid hib
      obtain ⟨W1, hW1⟩ : ∃ W1, W1 = (wc.setCell ⟨p, 2, none⟩ (.slice A' (a.box.length - 1) c')).setCell ⟨p, 3, none⟩ (.int .i64 0) := ⟨_, rfl⟩
      have hf1 : Fr (fun k => k = p) wc W1 := by rw [hW1]; (repeat' first | with_reducible exact Fr.refl (fun k => k = _) _ | (with_reducible refine Fr.setAt ?_ _) | with_reducible refine Fr.alloc ?_ _ | with_reducible refine Fr.drewN ?_ _ | with_reducible refine Fr.drew ?_)
      have HF1 := Lib.hid hf1
      have hz1 : W1.heap.size = wc.heap.size := by rw [hW1]; simp
      have HL1 := Lib.hid (isL_frame (w' := W1) (S' := fun k => w.heap.size ≤ k) hf1.size (fun k hk hlt' => ⟨hk.1, hf1.block k hlt' (by omega)⟩) hL)
      have HL2 := Lib.hid (show (nthL a.box i).isL W1.drew (fun k => w.heap.size ≤ k) _ from isL_frame (w := W1) (w' := W1.drew) (Nat.le_refl _) (fun k hk _ => ⟨hk, rfl⟩) HL1.out)
      have y0 := hf1.cell (HY.out 0 _ rfl) hqp4
      have y1 := hf1.cell (HY.out 1 _ rfl) hqp4
      have y2 := hf1.cell (HY.out 2 _ rfl) hqp4
      have y3 := hf1.cell (HY.out 3 _ rfl) hqp4
      have y4 := hf1.cell (HY.out 4 _ rfl) hqp4
      have y5 := hf1.cell (HY.out 5 _ rfl) hqp4
      have y6 := hf1.cell (HY.out 6 _ rfl) hqp4
      have y7 := hf1.cell (HY.out 7 _ rfl) hqp4
      have y8 := hf1.cell (HY.out 8 _ rfl) hqp4
      have d0 : W1.cell? ⟨p, 0, none⟩ = some (.pointer (some ⟨b, 0, none⟩)) := by rw [hW1]; simp [go_sem, b0]
      have d1 : W1.cell? ⟨p, 1, none⟩ = some (.int .i64 a.ref) := by rw [hW1]; simp [go_sem, b1]
      have d2 : W1.cell? ⟨p, 2, none⟩ = some (.slice A' (a.box.length - 1) c') := by rw [hW1]; simp [go_sem, b2]
      have d3 : W1.cell? ⟨p, 3, none⟩ = some (.int .i64 0) := by rw [hW1]; simp [go_sem, b3]
      have d4 : W1.cell? ⟨p, 4, none⟩ = some (.bool a.waits) := by rw [hW1]; simp [go_sem, b4]
      have d5 : W1.cell? ⟨p, 5, none⟩ = some (.int .i64 a.ticks) := by rw [hW1]; simp [go_sem, b5]
      have d6 : W1.cell? ⟨p, 6, none⟩ = some (.map (some kb)) := by rw [hW1]; simp [go_sem, b6]
      have df : ∀ o, W1.frozen? ⟨p, o, none⟩ = false := by intro o; rw [hW1]; simp [go_sem, bf]
      have HKN1 := Lib.hid (HKN.out.fr hf1 hkp)
      clear hmi hwf hR hL hD g3 e3 e4 hf1 hdk hib
      go_wp2_with fail
      rw [← hW1]
      have hWW := Lib.hid hW1
      have hpW : p < W1.heap.size := by omega
      have hkW : kb < W1.heap.size := by omega
      clear b0 b1 b2 b3 b4 b5 b6 bf hW1 x0 x1
      go_region_with (first
        | (go_at_call 137; refine (says_any (nthL a.box i) _ _ W1.drew HL2.out HM4.out).mono ?_; rintro e w2 ⟨cs2, rfl, hv2, hb2⟩; obtain ⟨k9, m9, s9, A9, n9, c9, rfl⟩ := isV_cells hv2; have HV2 := Lib.hid hv2; have HB2 := Lib.hid (show Below W1.heap.size W1 w2 from (Below.refl _ W1).drew.trans hb2); have u6 := (Fr.of_below (S := fun _ => False) HB2.out).cell d6 (fun h => h); clear hv2 hb2)
        | (go_at_call 64; refine (radd_any (nthL a.box i).says _ (fun k => W1.heap.size ≤ k) kb kn a.knows w2 HV2.out HWF.out (by omega) (fun k hk => by have h : W1.heap.size ≤ k := hk; omega) (HKN1.out.fr (Fr.of_below (S := fun _ => False) HB2.out) (fun h => h)) (by omega)).mono ?_; rintro e w3 ⟨rfl, hf3, n3, hn3, ho3⟩; have HF3 := Lib.hid ((Fr.of_below (S := fun k => k = kb) HB2.out).trans' hf3); have HO3 := Lib.hid ho3; have g4 := HF3.out.cell d4 hp3; have gf := (fun o => (HF3.out.frozen hpW hp3).trans (df o) : ∀ o, w3.frozen? ⟨p, o, none⟩ = false); clear hf3 ho3))
      all_goals
        go_wp2_with fail
        refine bodyPost_ret (v := .bool true) (by simp [results, Tryz.results116, go_sem]) rfl ?_
        rw [HW2.out]
        have g0 := HF3.out.cell d0 hp3
        have g1 := HF3.out.cell d1 hp3
        have g2 := HF3.out.cell d2 hp3
        have g3 := HF3.out.cell d3 hp3
        have g5 := HF3.out.cell d5 hp3
        have g6 := HF3.out.cell d6 hp3
        have hfw : Fr (fun k => k = p ∨ k = kb) wc (w3.setCell ⟨p, 4, none⟩ (.bool false)) := Fr.setIn ((HF1.out.weak (fun k hk => .inl hk)).trans' (HF3.out.weak (fun k hk => .inr hk))) (.inl rfl) _
        have hz3 := hfw.size
        have hRW : RdL (w3.setCell ⟨p, 4, none⟩ (.bool false)) (fun k => w.heap.size ≤ k ∧ ib' ≠ some k) A' (a.box.eraseIdx i).length (nthL (a.box.eraseIdx i)) := by
          rw [hlen]
          refine RdL.frame HRI.out (by omega) (fun k hk hlt' => ⟨⟨hk.1, fun e => ?_⟩, hfw.block k hlt' (fun h => ?_)⟩)
          · rcases HIB.out k e with h | h
            · have := HSL.out k (.inr (.inr h)); omega
            · omega
          · rcases h with h | h
            · omega
            · omega
        refine act_done HH.out HX.out HMX.out (ib' := ib') (fun k hk => by rcases HIB.out k hk with h | h; exact .inl h; exact .inr (by omega)) ((HDD.out.less (X' := fun k => X k ∨ ib' = some k) (fun k hk => by rcases hk with h | h; exact .inl (.inl h); rcases HIB.out k h with h2 | h2; exact .inl (.inl (HMX.out k (hm5 k h2))); exact .inl (.inr (by omega)))).fr hfw (fun k hk => .inl (by rcases hk with h | h; exact h ▸ hXp; exact h ▸ HMX.out kb hm4)) (fun k hk => .inl hk) (fun k hk => by rcases hk with h | h; exact h ▸ HH.out.lbp.1; exact h ▸ HH.out.lbp.2) (by omega) (fun e => by rcases e with e | e; exact hp1 e.symm; exact hp4 e) (fun e => by rcases e with e | e; exact hp2 e.symm; exact hp5 e) (fun k hk e => ?_)) (set_other g0 (by decide)) (set_other g1 (by decide)) (c := c') (by rw [hlen]; exact set_other g2 (by decide)) (by rw [hlen]; exact g1') g2' hRW (set_other g3 (by decide)) (set_this g4) (set_other g5 (by decide)) (set_other g6 (by decide)) (HO3.out.fr (S := fun k => k = p) (Fr.setAt (Fr.refl _ w3) _) hkp) (by omega) (set_fz gf) (HFr.out.trans' (hfw.weak (fun k hk => by rcases hk with h | h; exact h ▸ hm1; exact h ▸ hm4)))
        · rcases HIB.out k hk with h | h
          · rcases e with e | e
            · exact (hp6 k h).1 e
            · exact (hp6 k h).2 e
          · omega
end Go.Proofs.YthgbcgphkddmgaaGreat
