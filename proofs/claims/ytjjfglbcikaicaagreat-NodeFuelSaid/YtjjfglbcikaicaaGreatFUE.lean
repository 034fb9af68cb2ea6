/- Scripts that a call builds by append, each in a block of the call's own, their numbers in older ones. Scripts that are tame. What changes of a node are made of. The fuel of a node is no matter: steps at any fuel are steps at fuel 1, one after another. One alone: a script that spawns no one. A turn says no more than its fuel. The state of the law NodeFuel before a round: a block holds two rows of what was said. The walk of the law NodeFuel. -/
import Derived.Test.YtjjfglbcikaicaaGreatMJ
import Derived.Test.YtjjfglbcikaicaaGreatME
import Derived.Test.YtjjfglbcikaicaaGreatMI
namespace Go.Proofs.YtjjfglbcikaicaaGreat
open Go.RowKit
set_option linter.unusedVariables false
set_option linter.unusedSimpArgs false
theorem own_fzn {w : World} {base : Nat} {e : TypeId} {sz n : Nat} {v : Value} {xs : List Value} (h : w.ownsRow base e sz v n xs) {g : Nat} (hg : v.ownBlock = some g) : ∀ o, w.frozen? ⟨g, o, none⟩ = false := fun o => by
  rcases h.2 with ⟨rfl, _⟩ | ⟨g2, cap, cur, rfl, _, hb, _⟩
  · cases hg
  · injection hg with hg
    have hg' : g2 = g := hg
    subst hg'
    simp [World.frozen?, hb]
/-- a script in blocks of B, its numbers in blocks of Bn -/
def ScrOf (w : World) (B Bn : Nat → Prop) (A : Option Addr) (c : Nat) (l : List Stp) (vo : Nat → Value) : Prop :=
  l.length ≤ c ∧ c ≤ 9223372036854775807 ∧ l.length ≤ 1000000 ∧ (0 < l.length → ∃ b off, A = some ⟨b, off, none⟩ ∧ B b ∧ (∀ o, w.frozen? ⟨b, o, none⟩ = false) ∧ ∀ k, k < l.length → ∀ j u, (stC l vo k)[j]? = some u → w.cell? ⟨b, off + k * 4 + j, none⟩ = some u) ∧ ∀ k, k < l.length → NumIn w Bn (vo k) (nthS l k).ok
theorem ScrOf.fr {w w' : World} {S B B' Bn Bn' : Nat → Prop} {A : Option Addr} {c : Nat} {l : List Stp} {vo : Nat → Value} (h : ScrOf w B Bn A c l vo) (hf : Fr S w w') (hS : ∀ b, B b → ¬ S b) (hB : ∀ b, B b → B' b) (hSn : ∀ b, Bn b → ¬ S b) (hBn : ∀ b, Bn b → Bn' b) : ScrOf w' B' Bn' A c l vo := by
  obtain ⟨h1, h2, h3, h4, h5⟩ := h
  refine ⟨h1, h2, h3, fun h0 => ?_, fun k hk => (h5 k hk).fr hf hSn hBn⟩
  obtain ⟨b, off, e2, hb, hz, hc⟩ := h4 h0
  exact ⟨b, off, e2, hB b hb, fun o => (hf.frozen (World.block_lt_of_cell? w _ (hc 0 h0 0 _ rfl)) (hS b hb)).trans (hz o), fun k hk j u hu => hf.cell (hc k hk j u hu) (hS b hb)⟩
theorem ScrOf.in_ {w : World} {B Bn B' : Nat → Prop} {A : Option Addr} {c : Nat} {l : List Stp} {vo : Nat → Value} (h : ScrOf w B Bn A c l vo) (hB : ∀ b, B b → B' b) (hBn : ∀ b, Bn b → B' b) : ScrIn w B' A c l vo := by
  obtain ⟨h1, h2, h3, h4, h5⟩ := h
  refine ⟨h1, h2, h3, fun h0 => ?_, fun k hk => (h5 k hk).fr (Fr.refl (fun _ => False) _) (fun _ _ h => h) hBn⟩
  obtain ⟨b, off, e2, hb, -, hc⟩ := h4 h0
  exact ⟨b, off, e2, hB b hb, hc⟩
def setK (l : List Stp) (k : Nat) : List Stp := l.set k { nthS l k with kind := 1 }
theorem setK_len (l : List Stp) (k : Nat) : (setK l k).length = l.length := by unfold setK; simp
theorem setK_get (l : List Stp) {k i : Nat} (hi : i < l.length) : nthS (setK l k) i = if i = k then { nthS l k with kind := 1 } else nthS l i := by
  unfold setK nthS
  rw [List.getD_eq_getElem?_getD, List.getD_eq_getElem?_getD, List.getD_eq_getElem?_getD, List.getElem?_set]
  by_cases e : i = k
  · subst e
    simp [hi]
  · rw [if_neg (fun h => e h.symm), if_neg e]
/-- a step becomes one of kind 1 -/
theorem ScrOf.write {w : World} {B Bn : Nat → Prop} {b off c : Nat} {l : List Stp} {vo : Nat → Value} (h : ScrOf w B Bn (some ⟨b, off, none⟩) c l vo) {k : Nat} (hk : k < l.length) (hd : ∀ x, Bn x → x ≠ b) : ScrOf (w.setCell ⟨b, off + k * 4, none⟩ (.int .i64 1)) B Bn (some ⟨b, off, none⟩) c (setK l k) vo := by
  obtain ⟨h1, h2, h3, h4, h5⟩ := h
  have hf : Fr (fun x => x = b) w (w.setCell ⟨b, off + k * 4, none⟩ (.int .i64 1)) := Fr.set (S := fun x => x = b) (Fr.refl _ w) (Or.inl (rfl : b = b)) _
  refine ⟨by rw [setK_len]; exact h1, h2, by rw [setK_len]; exact h3, fun _ => ?_, fun i hi => ?_⟩
  · obtain ⟨b2, off2, e2, hb, hz, hc⟩ := h4 (by omega)
    injection e2 with e2
    injection e2 with e3 e4 _
    subst e3 e4
    refine ⟨_, _, rfl, hb, fun o => by simp [go_sem, hz], fun i hi j u hu => ?_⟩
    rw [setK_len] at hi
    have hj : j < 4 := (List.getElem?_eq_some_iff.1 hu).1
    by_cases e : off + i * 4 + j = off + k * 4
    · obtain rfl : i = k := by omega
      obtain rfl : j = 0 := by omega
      have hc0 := hc i hi 0 _ rfl
      unfold stC at hu
      rw [setK_get l hi, if_pos rfl] at hu
      injection hu with hu
      subst hu
      rw [Nat.add_zero] at hc0 ⊢
      exact set_this hc0
    · have hu' : (stC l vo i)[j]? = some u := by
        rw [← hu]
        unfold stC
        rw [setK_get l hi]
        by_cases ei : i = k
        · subst ei
          rw [if_pos rfl]
          rcases j with _ | j
          · omega
          · rfl
        · rw [if_neg ei]
      have := hc i hi j u hu'
      exact set_other this e
  · rw [setK_len] at hi
    have e : (nthS (setK l k) i).ok = (nthS l i).ok := by
      rw [setK_get l hi]
      by_cases e : i = k
      · subst e; rw [if_pos rfl]
      · rw [if_neg e]
    rw [e]
    exact (h5 i hi).fr hf hd (fun _ h => h)
structure ScrRowF (w : World) (base : Nat) (v : Value) (L : List (List Stp)) (V : Nat → Value) : Prop where
  row : w.ownsRow base 29 1 v L.length (flatC (fun i => [V i]) L.length)
  each : ∀ i, i < L.length → ∃ A c vo, V i = .slice A (L.getD i []).length c ∧ ScrOf w (fun b => base ≤ b ∧ b < w.heap.size ∧ v.ownBlock ≠ some b) (fun b => b < base) A c (L.getD i []) vo
theorem ScrRowF.scr {w : World} {base : Nat} {v : Value} {L : List (List Stp)} {V : Nat → Value} (h : ScrRowF w base v L V) (hb : base ≤ w.heap.size) : ScrRow w base v L V := ⟨h.row, fun i hi => by
  obtain ⟨A, c, vo, e, hs⟩ := h.each i hi
  exact ⟨A, c, vo, e, hs.in_ (fun b hb => hb.2) (fun b hb2 => ⟨by omega, fun e => by have := (h.row.lt b e).1; omega⟩)⟩⟩
theorem ScrRowF.nil (w : World) (base : Nat) : ScrRowF w base (.slice none 0 0) [] (fun _ => .slice none 0 0) := ⟨World.ownsRow_nil _ _ _ _, fun i hi => by simp at hi⟩
theorem ScrRowF.fr {w w' : World} {base : Nat} {v : Value} {L : List (List Stp)} {V : Nat → Value} (h : ScrRowF w base v L V) (hf : Fr (fun _ => False) w w') : ScrRowF w' base v L V := by
  refine ⟨hf.row h.row (fun _ _ h => h), fun i hi => ?_⟩
  obtain ⟨A, c, vo, e, hs⟩ := h.each i hi
  exact ⟨A, c, vo, e, hs.fr hf (fun _ _ h => h) (fun b hb => ⟨hb.1, Nat.lt_of_lt_of_le hb.2.1 hf.size, hb.2.2⟩) (fun _ _ h => h) (fun _ h => h)⟩
theorem ScrRowF.push {w w5 w' : World} {base : Nat} {v v' : Value} {L : List (List Stp)} {V : Nat → Value} {A : Option Addr} {c : Nat} {l : List Stp} {vo : Nat → Value} (h : ScrRowF w base v L V) (hf : Fr (fun _ => False) w w5) (hl : ScrOf w5 (fun b => base ≤ b ∧ b < w5.heap.size ∧ v.ownBlock ≠ some b) (fun b => b < base) A c l vo) (hg : w5.grownBy w' v.ownBlock)
    (hrow : w'.ownsRow base 29 1 v' (L.length + 1) (flatC (fun i => [V i]) L.length ++ [.slice A l.length c])) (hat : v'.ownBlock = v.ownBlock ∨ ∃ H, v'.ownBlock = some H ∧ w5.heap.size ≤ H) : ∃ V', ScrRowF w' base v' (L ++ [l]) V' := by
  have hlt := fun b hb => (h.row.lt b hb).2
  have hz := hf.size
  have hgf : Fr (fun k => v.ownBlock = some k) w5 w' := Fr.of_grown hg (fun k hk => .inl hk)
  have hz' := hgf.size
  have hne : ∀ b, b < w.heap.size → v.ownBlock ≠ some b → v'.ownBlock ≠ some b := fun b hb hn => by
    rcases hat with e | ⟨H, e, hH⟩
    · rw [e]; exact hn
    · rw [e]
      intro e2
      injection e2 with e2
      omega
  refine ⟨fun i => if i = L.length then .slice A l.length c else V i, ?_, fun i hi => ?_⟩
  · have e : (L ++ [l]).length = L.length + 1 := by simp
    have e2 : flatC (fun i => [if i = L.length then .slice A l.length c else V i]) (L ++ [l]).length = flatC (fun i => [V i]) L.length ++ [.slice A l.length c] := by
      rw [e, flatC_snoc]
      refine flatC_congr fun k hk => ?_
      unfold updC
      split <;> rfl
    rw [e2, e]
    exact hrow
  · by_cases e : i = L.length
    · subst e
      rw [if_pos rfl]
      have e3 : (L ++ [l]).getD L.length [] = l := by simp
      rw [e3]
      refine ⟨A, c, vo, rfl, hl.fr hgf (fun b hb hs => hb.2.2 hs) (fun b hb => ⟨hb.1, by omega, ?_⟩) (fun b hb hs => by have := (hlt b hs); have := (h.row.lt b hs).1; omega) (fun b hb => hb)⟩
      rcases hat with e | ⟨H, e, hH⟩
      · rw [e]
        exact hb.2.2
      · rw [e]
        intro e2
        injection e2 with e2
        omega
    · have hi' : i < L.length := by rw [List.length_append] at hi; simp at hi; omega
      rw [if_neg e]
      have e3 : (L ++ [l]).getD i [] = L.getD i [] := by
        rw [List.getD_eq_getElem?_getD, List.getD_eq_getElem?_getD, List.getElem?_append_left hi']
      rw [e3]
      obtain ⟨A', c', vo', e4, hs⟩ := h.each i hi'
      have hs5 : ScrOf w5 (fun b => base ≤ b ∧ b < w.heap.size ∧ v.ownBlock ≠ some b) (fun b => b < base) A' c' (L.getD i []) vo' := hs.fr hf (fun _ _ h => h) (fun _ h => h) (fun _ _ h => h) (fun _ h => h)
      exact ⟨A', c', vo', e4, hs5.fr hgf (fun b hb hs => hb.2.2 hs) (fun b hb => ⟨hb.1, by omega, hne b hb.2.1 hb.2.2⟩) (fun b hb hs => by have := (h.row.lt b hs).1; omega) (fun b hb => hb)⟩
/-- one script more -/
theorem wpList_push_inF {ops : Array Oper} {rest : List Oper} {o : Oper} {a : Act} {w w5 : World} {Q : Exit → Act → World → Prop} (hgd : o.guard = none) (s x : Operand)
    (ho : o.op = .call { callee := .builtin .append, args := #[s, x], argTypes := #[25, 25] }) (base : Nat) (v : Value) (L : List (List Stp)) (V : Nat → Value) (hs : a.eval s = v) (h : ScrRowF w base v L V) (hf : Fr (fun _ => False) w w5) (A : Option Addr) (c n : Nat) (l : List Stp) (vo : Nat → Value) (hn : l.length = n)
    (hl : ScrOf w5 (fun b => base ≤ b ∧ b < w5.heap.size ∧ v.ownBlock ≠ some b) (fun b => b < base) A c l vo) (H : Nat) (hH : w5.heap.size = H) (hx : a.eval x = .slice (some ⟨H, 0, none⟩) 1 1) (hL : L.length ≤ 1000) (hbase : base ≤ w.heap.size)
    (h : ∀ v' w' V', ScrRowF w' base v' (L ++ [l]) V' → Fr (fun k => v.ownBlock = some k) w w' → (∀ k, v.ownBlock = some k → base ≤ k) → wpList Tryz.prog ops Q rest (a.put o.dst v') w') :
    wpList Tryz.prog ops Q (o :: rest) a (w5.alloc (.cells #[.slice A n c] 29)) := by
  rename_i hrw
  obtain ⟨i0, hi, hz0, hz1, hz2⟩ := info_parts infoSteps
  subst hH
  subst hn
  have hz := hf.size
  refine wpList_append_own_at _ hgd s x 25 ho base 29 i0 (.slice none 0 0) 1 24 Tryz.underlying25 hi hz0 hz1 hz2 rfl (by decide) v L.length _ hs ((hf.row hrw.row (fun _ _ h => h)).alloc _) ⟨w5.heap.size, 0, none⟩ 1 1 [.slice A l.length c] hx rfl (cell_one_new _ _ _) ?_ ?_ ?_ ?_ ?_
  · intro u hu; simp at hu; subst hu; rfl
  · unfold maxLen; omega
  · omega
  · simp; omega
  · intro v' w' h1 h2 _ h4
    have hg : w5.grownBy w' v.ownBlock := grown_step (World.grownBy_alloc w5 _ _) h2 (.inl rfl)
    obtain ⟨V', hV⟩ := hrw.push (v' := v') hf hl hg (by simpa using h1) (by
      rcases h4 with h4 | h4
      · exact .inl h4
      · exact .inr ⟨_, h4, by simp⟩)
    exact h v' w' V' hV ((hf.weak (fun _ h => h.elim)).trans' (Fr.of_grown hg (fun k hk => .inl hk))) (fun k hk => (hrw.row.lt k hk).1)
end Go.Proofs.YtjjfglbcikaicaaGreat
namespace Go.Proofs.YtjjfglbcikaicaaGreat
open Go.RowKit
set_option linter.unusedVariables false
set_option linter.unusedSimpArgs false
set_option maxRecDepth 100000 in
set_option maxHeartbeats 8000000 in
theorem tame_anyF (v : Value) (L : List (List Stp)) (w : World) (hA : ArgScrs w (fun b => b < w.heap.size) v L) :
    Calls Tryz.prog 27 #[v] w fun e w' => ∃ v' V', e = .returned v' ∧ ScrRowF w' w.heap.size v' (tameL L) V' ∧ Below w.heap.size w w' := by
  obtain ⟨A, c, rfl, hc1, hc2, hwf, hrd⟩ := hA
  have HRD := Lib.hid hrd
  obtain ⟨i0, hinf, jz0, jz1, jz2⟩ := info_parts infoStep
  clear hrd
  obtain ⟨m, hm⟩ : ∃ m : Nat, m = min L.length 5 := ⟨_, rfl⟩
  have hm5 : m ≤ 5 ∧ m ≤ L.length := by omega
  have HM := Lib.hid hm
  have e1 : min (L.length : Int) 5 = (m : Int) := by omega
  have HE1 := Lib.hid e1
  clear e1 hm
  go_enter Tryz.func27, Tryz.ntmps27
  go_upto_block 0 with (fail)
  have hm1 : (min (L.length : Int) 5).toNat = m := by have := HE1.out; omega
  have hm2 : max (min (L.length : Int) 5) 0 = (m : Int) := by have := HE1.out; omega
  rw [hm1, hm2, HE1.out]
  clear hm1 hm2
  go_wp2_with fail
  go_loopw [3, 5, 6, 8, 15, 31, 40] (fun v3 _ _ _ v15 _ _ wr => ∃ (i : Nat) (R : List (List Stp)) (V : Nat → Value), i ≤ m ∧ v15 = .int .i64 (i : Int) ∧ Hid (R = (L.take i).map (tameScr m)) ∧ Hid (ScrRowF wr w.heap.size v3 R V) ∧ Hid (Below w.heap.size w wr)) (fun _ _ _ _ v15 _ _ _ => m - (intOf v15).toNat)
  case atStart => exact ⟨0, [], _, Nat.zero_le _, rfl, Lib.hid rfl, Lib.hid (ScrRowF.nil _ _), Lib.hid (Below.refl _ _)⟩
  case round =>
    obtain ⟨i, R, V, hi, rfl, HRL, HR, HB⟩ := hrel
    have hzr := HB.out.size
    obtain ⟨Ar, cr, rfl, -, -, -⟩ := own_any HR.out.row
    by_cases hlt : i < m
    · obtain ⟨b, off, Vi, rfl, hb, hcell, hscr⟩ := HRD.out i (by omega)
      obtain ⟨l, hl⟩ : ∃ l, L.getD i [] = l := ⟨_, rfl⟩
      rw [hl] at hscr
      obtain ⟨A', c', vo, rfl, hl1, hl2, hsteps, hnum⟩ := hscr
      have c0 := (HB.out.cell (p := ⟨b, off + i, none⟩) hb).trans hcell
      have HL := Lib.hid hl
      have HST := Lib.hid hsteps
      have HNU := Lib.hid hnum
      obtain ⟨m2, hm2⟩ : ∃ m2 : Nat, m2 = min l.length 12 := ⟨_, rfl⟩
      have hm25 : m2 ≤ 12 ∧ m2 ≤ l.length := by omega
      have HM2 := Lib.hid hm2
      have e2 : min (l.length : Int) 12 = (m2 : Int) := by omega
      have HE2 := Lib.hid e2
      have i1 : (0 : Int) ≤ (i : Int) := by omega
      have i2 : (i : Int) < (m : Int) := by omega
      have hbr : b < wr.heap.size := by omega
      clear hcell hl hsteps hnum hm2 e2
      go_upto_block 2 with (fail)
      have hq1 : (min (l.length : Int) 12).toNat = m2 := by have := HE2.out; omega
      have hq2 : max (min (l.length : Int) 12) 0 = (m2 : Int) := by have := HE2.out; omega
      rw [hq1, hq2, HE2.out]
      clear hq1 hq2
      obtain ⟨wo, hwo⟩ : ∃ wo : World, wo = wr := ⟨_, rfl⟩
      subst hwo
      go_wp2_with fail
      go_loopw [6, 8, 25, 31, 40] (fun v6 _ v25 _ _ wq => ∃ (j : Nat) (r : List Stp) (vo2 : Nat → Value), j ≤ m2 ∧ v25 = .int .i64 (j : Int) ∧ Hid (r = (l.take j).map (tameStp m)) ∧ Hid (StpRow wq wo.heap.size (fun b => b < w.heap.size) v6 r vo2) ∧ Hid (Below wo.heap.size wo wq)) (fun _ _ v25 _ _ _ => m2 - (intOf v25).toNat)
      case atStart => exact ⟨0, [], fun _ => .slice none 0 0, Nat.zero_le _, rfl, Lib.hid rfl, Lib.hid ⟨World.ownsRow_nil _ _ _ _, fun k hk => absurd hk (by simp)⟩, Lib.hid (Below.refl _ _)⟩
      case round =>
        obtain ⟨j, r, vo2, hj, rfl, HRJ, HSR, HBq⟩ := hrel
        have hzq := HBq.out.size
        obtain ⟨Aq, cq, rfl, -, -, -⟩ := own_any HSR.out.row
        by_cases hlt2 : j < m2
        · obtain ⟨b2, off2, rfl, hb2, hst⟩ := HST.out (by omega)
          obtain ⟨Ao, co, hvo, ho1, ho2, ho3⟩ := HNU.out j (by omega)
          have hjl : j < l.length := by omega
          have hcs := hst j hjl
          have hbw : Below w.heap.size w wr := HB.out.trans (HBq.out.mono hzr)
          have HBW := Lib.hid hbw
          obtain ⟨q, hq⟩ : ∃ q, nthS l j = q := ⟨_, rfl⟩
          unfold stC at hcs
          rw [hq, hvo] at hcs
          rw [hq] at ho1 ho3 hcs
          obtain ⟨k, a, bb, ok⟩ := q
          dsimp only at ho1 ho3 hcs
          have y0 : wr.cell? ⟨b2, off2 + j * 4, none⟩ = some (.int .i64 k) := (hbw.cell (p := ⟨b2, _, none⟩) hb2).trans (hcs 0 _ rfl)
          have y1 : wr.cell? ⟨b2, off2 + j * 4 + 1, none⟩ = some (.int .i64 a) := (hbw.cell (p := ⟨b2, _, none⟩) hb2).trans (hcs 1 _ rfl)
          have y2 : wr.cell? ⟨b2, off2 + j * 4 + 2, none⟩ = some (.int .i64 bb) := (hbw.cell (p := ⟨b2, _, none⟩) hb2).trans (hcs 2 _ rfl)
          have y3 : wr.cell? ⟨b2, off2 + j * 4 + 3, none⟩ = some (.slice Ao ok.length co) := (hbw.cell (p := ⟨b2, _, none⟩) hb2).trans (hcs 3 _ rfl)
          have HQ := Lib.hid hq
          have HO := Lib.hid ho3
          have hb2q : b2 < wr.heap.size := by omega
          have j1 : (0 : Int) ≤ (j : Int) := by omega
          have j2 : (j : Int) < (m2 : Int) := by omega
          clear hst hcs hbw hq ho3 hvo
          go_upto_block 4 with (fail)
          go_cut [] (fun wx => ∃ a' : Int, Hid (a' = (tameStp m ⟨k, a, bb, ok⟩).a) ∧ wx.cell? ⟨wr.heap.size, 0, none⟩ = some (.int .i64 k) ∧ wx.cell? ⟨wr.heap.size, 1, none⟩ = some (.int .i64 a') ∧ wx.cell? ⟨wr.heap.size, 2, none⟩ = some (.int .i64 bb) ∧ wx.cell? ⟨wr.heap.size, 3, none⟩ = some (.slice Ao ok.length co) ∧ (∀ o, wx.frozen? ⟨wr.heap.size, o, none⟩ = false) ∧ Hid (Below wr.heap.size wr wx) ∧ wr.heap.size < wx.heap.size)
          case first =>
            have hand := and_one a
            obtain ⟨a2, ha2, ha20, ha21⟩ : ∃ a2, a % 2 = a2 ∧ 0 ≤ a2 ∧ a2 ≤ 1 := ⟨_, rfl, by omega, by omega⟩
            rw [ha2] at hand
            have HA2 := Lib.hid ha2
            clear ha2
            by_cases h245 : k = 2 ∨ k = 4 ∨ k = 5
            · have HTA := Lib.hid (show (tameStp m ⟨k, a, bb, ok⟩).a = -a2 by unfold tameStp; rw [← HA2.out]; exact if_pos h245)
              rcases h245 with rfl | rfl | rfl
              all_goals
                go_wp2_with fail
                go_meet
                exact ⟨-a2, Lib.hid HTA.out.symm, by simp [go_sem], by simp [go_sem], by simp [go_sem], by simp [go_sem], fun o => by simp [go_sem], Lib.hid (by repeat' first | exact Below.refl _ _ | (refine below_set ?_ (by simp)) | (refine Below.alloc ?_ (by simp) _)), by simp⟩
            · have b2' : (k == 2) = false := by simp; omega
              have b4' : (k == 4) = false := by simp; omega
              have b5' : (k == 5) = false := by simp; omega
              by_cases h3 : k = 3
              · subst h3
                have HTA := Lib.hid (show (tameStp m ⟨3, a, bb, ok⟩).a = (((IntKind.u64.wrap a).tmod (m : Int)).toNat : Int) by unfold tameStp; dsimp only; rw [if_neg h245, if_pos rfl])
                have e1 := HE1.out
                have hu : IntKind.u64.wrap ((m : Nat) : Int) = ((m : Nat) : Int) := by rw [wrapI_u64]; omega
                have hwr := wrap_rem a m (by omega) (by omega)
                have hm0 : ¬ ((m : Nat) : Int) = 0 := by omega
                have hm1 : ¬ m = 0 := by omega
                clear h245 b2' b4' b5'
                go_wp2_with fail
                go_meet
                exact ⟨_, Lib.hid HTA.out.symm, by simp [go_sem], by simp [go_sem], by simp [go_sem], by simp [go_sem], fun o => by simp [go_sem], Lib.hid (by repeat' first | exact Below.refl _ _ | (refine below_set ?_ (by simp)) | (refine Below.alloc ?_ (by simp) _)), by simp⟩
              · have HTA := Lib.hid (show (tameStp m ⟨k, a, bb, ok⟩).a = a by unfold tameStp; exact (if_neg h245).trans (if_neg h3))
                have b3' : (k == 3) = false := by simpa using h3
                clear h245 h3
                go_wp2_with fail
                go_meet
                exact ⟨a, Lib.hid HTA.out.symm, by simp [go_sem], by simp [go_sem], by simp [go_sem], by simp [go_sem], fun o => by simp [go_sem], Lib.hid (by repeat' first | exact Below.refl _ _ | (refine below_set ?_ (by simp)) | (refine Below.alloc ?_ (by simp) _)), by simp⟩
          case rest =>
            obtain ⟨a', HTA, x0, x1, x2, x3, xf, HBx, hlx⟩ := hcut
            clear y0 y1 y2 y3
            obtain ⟨m3, hm3⟩ : ∃ m3 : Nat, m3 = min ok.length 6 := ⟨_, rfl⟩
            have hm36 : m3 ≤ 6 ∧ m3 ≤ ok.length := by omega
            have HM3 := Lib.hid hm3
            have e3 : min (ok.length : Int) 6 = (m3 : Int) := by omega
            clear hm3
            obtain ⟨W6, hW6⟩ : ∃ W6, W6 = wc.setCell ⟨wr.heap.size, 3, none⟩ (.slice Ao m3 co) := ⟨_, rfl⟩
            have hf6 : Below wr.heap.size wr W6 := by rw [hW6]; exact below_set HBx.out (Nat.le_refl _)
            have hz6 : W6.heap.size = wc.heap.size := by rw [hW6]; simp
            have HW6 := Lib.hid hW6
            have HF6 := Lib.hid hf6
            have HS6 := Lib.hid (own_below HSR.out.row hf6)
            have hrl : r.length ≤ 12 := by rw [HRJ.out]; simp; omega
            have i3 : (0 : Int) ≤ (m3 : Int) := by omega
            have i4 : (m3 : Int) ≤ (co : Int) := by omega
            clear hW6 hf6
            go_wp2_with (at_builtin; (rw [← HW6.out]; go_loud (refine wpList_append_own_at _ rfl _ _ 29 rfl wo.heap.size 28 i0 _ 4 48 Tryz.underlying29 hinf jz0 jz1 jz2 rfl (by omega) (.slice Aq r.length cq) r.length (flatC (stC r vo2) r.length) rfl (HS6.out.alloc _) ⟨W6.heap.size, 0, none⟩ 1 1 [.int .i64 k, .int .i64 a', .int .i64 bb, .slice Ao m3 co] (by rw [hz6]; rfl) rfl (cell_newL _ _ _ _ rfl) (cells4_one _ _ _ _ _ _) (by unfold maxLen; omega) (by omega) (by simp; omega) ?_; intro v7 w7 hown7 hgrow7 _ hat7; have HO7 := Lib.hid hown7; have HG7 := Lib.hid hgrow7; have HA7 := Lib.hid hat7; clear hown7 hgrow7 hat7)))
            go_roundw
            case rel =>
              obtain ⟨A8, c8, hv8, -, -, -⟩ := own_any HO7.out
              have hqt : (tameStp m ⟨k, a, bb, ok⟩) = ⟨k, a', bb, ok.take 6⟩ := by
                have h := HTA.out
                unfold tameStp at h ⊢
                dsimp only at h ⊢
                rw [← h]
              have hget : l[j]? = some ⟨k, a, bb, ok⟩ := by
                rw [List.getElem?_eq_getElem hjl, ← HQ.out]
                unfold nthS
                rw [List.getD_eq_getElem?_getD, List.getElem?_eq_getElem hjl]
                rfl
              have hrr : r ++ [⟨k, a', bb, ok.take 6⟩] = (l.take (j + 1)).map (tameStp m) := by
                have e9 : l.take (j + 1) = l.take j ++ [⟨k, a, bb, ok⟩] := by rw [List.take_add_one, hget]; rfl
                rw [e9, HRJ.out, List.map_append, ← hqt]
                rfl
              have hown : ∀ x, (Value.slice Aq r.length cq).ownBlock = some x → wo.heap.size ≤ x ∧ x < wr.heap.size := fun x hx => HSR.out.row.lt x hx
              have hbb : Below w.heap.size w w7 := below_grown ((HBW.out.trans (HF6.out.mono (by omega))).alloc (by have := HF6.out.size; omega) _) (by have := HF6.out.size; simp; omega) HG7.out (fun x hx => by have := (hown x hx).1; omega)
              have hbo : Below wo.heap.size wo w7 := below_grown ((HBq.out.trans (HF6.out.mono (by omega))).alloc (by have := HF6.out.size; omega) _) (by have := HF6.out.size; simp; omega) HG7.out (fun x hx => (hown x hx).1)
              have hbq : Fr (fun x => (Value.slice Aq r.length cq).ownBlock = some x) wr w7 := ((Fr.of_below HF6.out).alloc _).trans' (Fr.of_grown HG7.out (fun x hx => .inl hx))
              have hm3 : (ok.take 6).length = m3 := by rw [List.length_take, HM3.out]; omega
              refine ⟨j + 1, r ++ [⟨k, a', bb, ok.take 6⟩], fun i => if i = r.length then .slice Ao m3 co else vo2 i, by omega, by go_num, Lib.hid hrr, Lib.hid ⟨?_, fun i hi => ?_⟩, Lib.hid ?_⟩
              · have e : (r ++ [(⟨k, a', bb, ok.take 6⟩ : Stp)]).length = r.length + 1 := by simp
                have e2 : flatC (stC (r ++ [⟨k, a', bb, ok.take 6⟩]) (fun i => if i = r.length then .slice Ao m3 co else vo2 i)) (r ++ [(⟨k, a', bb, ok.take 6⟩ : Stp)]).length = flatC (stC r vo2) r.length ++ [.int .i64 k, .int .i64 a', .int .i64 bb, .slice Ao m3 co] := by
                  rw [e, flatC_snoc]
                  refine flatC_congr fun i hi => ?_
                  unfold updC stC nthS
                  by_cases h : i = r.length
                  · subst h
                    simp
                  · have hlt : i < r.length := by omega
                    rw [if_neg h]
                    simp only [if_neg h, List.getD_eq_getElem?_getD, List.getElem?_append_left hlt]
                rw [e2, e]
                exact HO7.out
              · by_cases h : i = r.length
                · subst h
                  have e : nthS (r ++ [⟨k, a', bb, ok.take 6⟩]) r.length = ⟨k, a', bb, ok.take 6⟩ := by unfold nthS; simp
                  rw [if_pos rfl, e]
                  refine ⟨Ao, co, by rw [hm3], by rw [hm3]; omega, ho2, fun h0 => ?_⟩
                  rw [hm3] at h0
                  obtain ⟨b5, off5, e5, hb5, hc5⟩ := HO.out (by omega)
                  refine ⟨b5, off5, e5, hb5, fun q hq => ?_⟩
                  rw [hm3] at hq
                  have h1 := hc5 q (by omega)
                  have e6 : lst (ok.take 6) q = lst ok q := by
                    unfold lst
                    rw [List.getD_eq_getElem?_getD, List.getD_eq_getElem?_getD, List.getElem?_take_of_lt (by omega)]
                  rw [e6]
                  exact (hbb.cell (p := ⟨b5, _, none⟩) hb5).trans h1
                · have hlt : i < r.length := by rw [List.length_append] at hi; simp at hi; omega
                  have e : nthS (r ++ [⟨k, a', bb, ok.take 6⟩]) i = nthS r i := by
                    unfold nthS
                    rw [List.getD_eq_getElem?_getD, List.getD_eq_getElem?_getD, List.getElem?_append_left hlt]
                  rw [if_neg h, e]
                  exact (HSR.out.num i hlt).fr hbq (fun x hx e => by have := (hown x e).1; omega) (fun _ h => h)
              · exact hbo
            case measure => simp [intOf]; omega
        · obtain rfl : j = m2 := by omega
          have hrl : r.length ≤ 12 := by rw [HRJ.out]; simp; omega
          have hbw : Below w.heap.size w wr := HB.out.trans (HBq.out.mono hzr)
          have hout : ∀ x, (Value.slice Ar R.length cr).ownBlock = some x → w.heap.size ≤ x ∧ x < wo.heap.size := fun x hx => HR.out.row.lt x hx
          have hR2 : ScrRowF wr w.heap.size (.slice Ar R.length cr) R V := HR.out.fr (Fr.of_below HBq.out)
          have hin : ScrOf wr (fun b => w.heap.size ≤ b ∧ b < wr.heap.size ∧ (Value.slice Ar R.length cr).ownBlock ≠ some b) (fun b => b < w.heap.size) Aq cq r vo2 := by
            obtain ⟨Aq', cq', hvq, g1, g2, g3⟩ := own_any HSR.out.row
            injection hvq with e1 _ e3
            subst e1 e3
            refine ⟨g1, g2, by omega, fun h0 => ?_, fun k hk => (HSR.out.num k hk).fr (Fr.refl (fun _ => False) _) (fun _ _ h => h) (fun b hb => hb)⟩
            obtain ⟨g, cap, hv, hb0, hlt0, _⟩ := own_form HSR.out.row h0
            injection hv with e1 _ _
            have hgl := (HSR.out.row.lt g (by rw [e1]; rfl)).1
            refine ⟨g, 0, e1, ⟨by omega, hlt0, fun e => by have := (hout g e).2; omega⟩, own_fzn HSR.out.row (by rw [e1]; rfl), fun k hk q u hu => ?_⟩
            have hq4 : q < 4 := (List.getElem?_eq_some_iff.1 hu).1
            subst e1
            have h1 := own_cellC HSR.out.row (stC_len _ _) hk hq4
            rw [Nat.zero_add]
            exact h1.trans hu
          have HR2 := Lib.hid hR2
          have HIN := Lib.hid hin
          have HOUT := Lib.hid hout
          have hRl : R.length ≤ 1000 := by rw [HRL.out]; simp; omega
          clear hR2 hin hout
          go_wp2_with (at_builtin; go_loud (refine wpList_push_inF rfl _ _ rfl w.heap.size (.slice Ar R.length cr) R V rfl HR2.out (Fr.refl _ _) Aq cq r.length r vo2 rfl HIN.out wr.heap.size rfl rfl hRl (by have := hbw.size; omega) ?_; intro v9 w9 V9 hr9 hf9 hb9; have HR9 := Lib.hid hr9; have HF9 := Lib.hid hf9; clear hr9 hf9 hb9))
          go_roundw
          case rel =>
            obtain ⟨A9, c9, hv9, -, -, -⟩ := own_any HR9.out.row
            refine ⟨i + 1, R ++ [r], V9, by omega, by go_num, Lib.hid ?_, HR9, Lib.hid ?_⟩
            · have hgl : L[i]? = some l := by
                rw [List.getElem?_eq_getElem (show i < L.length by omega), ← HL.out, List.getD_eq_getElem?_getD, List.getElem?_eq_getElem (show i < L.length by omega)]
                rfl
              have e9 : L.take (i + 1) = L.take i ++ [l] := by rw [List.take_add_one, hgl]; rfl
              have er : r = tameScr m l := by
                rw [HRJ.out]
                unfold tameScr
                by_cases h12 : l.length ≤ 12
                · rw [show j = l.length by have := HM2.out; omega, List.take_length, List.take_of_length_le h12]
                · rw [show j = 12 by have := HM2.out; omega]
              rw [e9, HRL.out, List.map_append, er]
              rfl
            · exact hbw.trans (HF9.out.below (fun x hx => (HOUT.out x hx).1) hbw.size)
          case measure => simp [intOf]; omega
    · obtain rfl : i = m := by omega
      go_wp2_with fail
      refine bodyPost_ret (v := .slice Ar R.length cr) (by simp [results, Tryz.results27, go_sem]) rfl ?_
      refine ⟨_, V, rfl, ?_, HB.out⟩
      have hR := HR.out
      have e : R = tameL L := by
        rw [HRL.out]
        unfold tameL
        rw [HM.out]
        congr 1
        by_cases h5 : L.length ≤ 5
        · rw [show min L.length 5 = L.length by omega, List.take_length, List.take_of_length_le h5]
        · rw [show min L.length 5 = 5 by omega]
      rw [e] at hR ⊢
      exact hR
end Go.Proofs.YtjjfglbcikaicaaGreat
namespace Go.Proofs.YtjjfglbcikaicaaGreat
open Go.RowKit
set_option linter.unusedVariables false
set_option linter.unusedSimpArgs false
/-- from one node to another one by small changes; b: may actors come? -/
inductive Pr (b : Bool) (N : NdS) : NdS → Prop where
  | refl : Pr b N N
  | set {M : NdS} (a : ActS) : Pr b N M → Pr b N (M.setA a)
  | rows {M : NdS} (l : List Li.LR) : Pr b N M → Pr b N { M with rows := l }
  | out {M : NdS} (l : List LT) : Pr b N M → Pr b N { M with out := M.out ++ l }
  | said {M : NdS} (l : List (Int × Int)) : Pr b N M → Pr b N { M with said := M.said ++ l }
  | del {M : NdS} (r : Int) : Pr b N M → Pr b N (M.delA r)
  | ins {M : NdS} (a : ActS) (l : List Li.LR) (k : Nat) : b = true → M.has a.ref = false → Pr b N M → Pr b N { M with acts := insA a M.acts, rows := l, spawned := k }
  | last {M : NdS} (x : Int) : Pr b N M → Pr b N { M with last := x }
theorem Pr.trans {b : Bool} {N M K : NdS} (h : Pr b N M) (k : Pr b M K) : Pr b N K := by
  induction k with
  | refl => exact h
  | set a _ ih => exact .set a ih
  | rows l _ ih => exact .rows l ih
  | out l _ ih => exact .out l ih
  | said l _ ih => exact .said l ih
  | del r _ ih => exact .del r ih
  | ins a l k h1 h2 _ ih => exact .ins a l k h1 h2 ih
  | last x _ ih => exact .last x ih
theorem Pr.srt {b : Bool} {N M : NdS} (h : Pr b N M) (hs : N.acts.Pairwise fun a b => a.ref < b.ref) : M.acts.Pairwise fun a b => a.ref < b.ref := by
  induction h with
  | refl => exact hs
  | set a _ ih => exact srt_refs (refs_setA a) ih
  | rows l _ ih => exact ih
  | out l _ ih => exact ih
  | said l _ ih => exact ih
  | del r _ ih => exact ih.filter _
  | @ins M a l k h1 h2 _ ih => exact srt_insA ih (fun b hb e => by
      have := has_iff.2 ⟨b, hb, e⟩
      rw [h2] at this
      cases this)
  | last x _ ih => exact ih
theorem Pr.saidL {b : Bool} {N M : NdS} (h : Pr b N M) : ∃ l, M.said = N.said ++ l := by
  induction h with
  | refl => exact ⟨[], by simp⟩
  | set a _ ih => exact ih
  | rows l _ ih => exact ih
  | out l _ ih => exact ih
  | said l _ ih => obtain ⟨k, hk⟩ := ih; exact ⟨k ++ l, by show _ ++ l = _; rw [hk, List.append_assoc]⟩
  | del r _ ih => exact ih
  | ins a l k h1 h2 _ ih => exact ih
  | last x _ ih => exact ih
theorem Pr.has {N M : NdS} (h : Pr false N M) {x : Int} (hx : M.has x = true) : N.has x = true := by
  induction h with
  | refl => exact hx
  | @set M a _ ih => exact ih (by rw [← has_setA a x]; exact hx)
  | rows l _ ih => exact ih hx
  | out l _ ih => exact ih hx
  | said l _ ih => exact ih hx
  | del r _ ih =>
    rw [has_delA] at hx
    split at hx
    · cases hx
    · exact ih hx
  | ins a l k h1 h2 _ ih => cases h1
  | last x _ ih => exact ih hx
section
variable {b : Bool} {rem : NdS → Int → ByteArray → NdS}
theorem deliverW_pr (hr : ∀ M r t, Pr b M (rem M r t)) (N : NdS) (x : LT) : Pr b N (deliverW rem N x) := by
  unfold deliverW
  split
  · split
    · exact .refl
    · exact .set _ .refl
  · split
    · exact .rows _ .refl
    · split
      · exact .rows _ .refl
      · split
        · split
          · exact hr _ _ _
          · exact .refl
        · exact .refl
theorem send1W_pr (hr : ∀ M r t, Pr b M (rem M r t)) (N : NdS) (x : LT) : Pr b N (send1W rem N x) := by
  unfold send1W
  split
  · exact deliverW_pr hr N x
  · split
    · exact .out _ .refl
    · exact .refl
theorem replyW_pr (hr : ∀ M r t, Pr b M (rem M r t)) (N : NdS) (x : LT) : Pr b N (replyW rem N x) := by
  unfold replyW
  split
  · exact .refl
  · exact send1W_pr hr N _
theorem sendW_pr (hr : ∀ M r t, Pr b M (rem M r t)) (N : NdS) (x : LT) : Pr b N (sendW rem N x) := by
  unfold sendW
  split
  · exact deliverW_pr hr N x
  · split
    · exact .out _ .refl
    · exact replyW_pr hr N x
theorem foldl_pr (hr : ∀ M r t, Pr b M (rem M r t)) : ∀ (l : List LT) (N : NdS), Pr b N (l.foldl (sendW rem) N)
  | [], N => .refl
  | x :: l, N => (sendW_pr hr N x).trans (foldl_pr hr l _)
end
theorem remN_pr {b : Bool} : ∀ (k : Nat) (N : NdS) (ref : Int) (failed : Bool) (text : ByteArray), Pr b N (remN k N ref failed text)
  | 0, N, _, _, _ => .refl
  | k + 1, N, ref, failed, text => (Pr.rows (goneL N.rows ref) (Pr.del ref .refl)).trans (foldl_pr (fun M r t => remN_pr k M r true t) _ { N.delA ref with rows := goneL N.rows ref })
theorem sendN_pr {b : Bool} (N : NdS) (x : LT) : Pr b N (sendN N x) := sendW_pr (fun M r t => remN_pr 60 M r true t) N x
theorem replyN_pr {b : Bool} (N : NdS) (x : LT) : Pr b N (replyN N x) := replyW_pr (fun M r t => remN_pr 60 M r true t) N x
theorem deliverN_pr {b : Bool} (N : NdS) (x : LT) : Pr b N (deliverN N x) := deliverW_pr (fun M r t => remN_pr 60 M r true t) N x
theorem putN_pr {b : Bool} (N : NdS) (x : LT) : Pr b N (putN N x).1 := by
  unfold putN
  split
  · exact .refl
  · split
    · exact replyN_pr N x
    · split
      · exact .refl
      · exact deliverN_pr N x
theorem spawnN_pr (N : NdS) (nm : ByteArray) : Pr true N (spawnN N nm).1 := by
  unfold spawnN
  dsimp only
  split
  · exact .refl
  · split
    · exact .refl
    · split
      · exact .refl
      · rename_i h1 h2
        exact .ins _ _ _ rfl (by simpa using h1) .refl
theorem armN_pr {b : Bool} (N2 : NdS) (r : Int) (a : ActS) (o : OutS) (hb : o.kind = 4 → b = true) : Pr b N2 (armN N2 r a o).1 := by
  unfold armN
  split
  · exact .said _ .refl
  split
  · exact sendN_pr _ _
  split
  · exact sendN_pr _ _
  split
  · exact (Pr.rows _ .refl).trans (sendN_pr { N2 with rows := linkL N2.rows r o.num } _)
  split
  · rename_i h4
    have := hb h4
    subst this
    refine (spawnN_pr N2 o.text).trans ?_
    dsimp only
    split
    · exact .refl
    · exact .set _ .refl
  split
  · exact .set _ .refl
  split
  · exact remN_pr _ _ _ _ _
  split
  · exact remN_pr _ _ _ _ _
  · exact .refl
theorem stepN_pr {b : Bool} (N : NdS) (r : Int) (hb : ∀ a, N.find r = some a → (runD N.fuel (goA a).1.d).2.kind = 4 → b = true) : Pr b N (stepN N r).1 := by
  rcases ha : N.find r with _ | a
  · unfold stepN
    rw [ha]
    exact .refl
  · rcases hg : (goA a).2 with _ | _
    · rw [stepN_no ha hg]
      exact .set _ .refl
    · rw [stepN_go ha hg]
      exact (Pr.set _ (Pr.set _ .refl)).trans (armN_pr _ _ _ _ (hb a ha))
theorem loopN_pr : ∀ (k : Nat) (N : NdS) (r : Int), Pr true N (loopN k N r)
  | 0, N, r => .refl
  | k + 1, N, r => by
    unfold loopN
    split
    · split
      · exact (stepN_pr N r (fun _ _ _ => rfl)).trans (loopN_pr k _ r)
      · exact stepN_pr N r (fun _ _ _ => rfl)
    · exact .refl
theorem turnN_pr (N : NdS) : Pr true N (turnN N).1 := by
  unfold turnN
  split
  · exact .refl
  · exact (Pr.last _ .refl).trans (loopN_pr _ { N with last := nextI (readyN N) N.last } _)
theorem tickN_srt {N : NdS} (hs : N.acts.Pairwise fun a b => a.ref < b.ref) : (tickN N).acts.Pairwise fun a b => a.ref < b.ref := by
  refine srt_refs ?_ hs
  unfold tickN
  rw [List.map_map]
  exact List.map_congr_left fun a _ => by
    show (if a.waits && decide (0 < a.ticks) then { a with ticks := a.ticks - 1 } else a).ref = a.ref
    split <;> rfl
theorem dropN_srt {N : NdS} (hs : N.acts.Pairwise fun a b => a.ref < b.ref) (r : Int) : (dropN N r).acts.Pairwise fun a b => a.ref < b.ref := by
  unfold dropN
  split
  · exact hs.filter _
  · exact hs
end Go.Proofs.YtjjfglbcikaicaaGreat
namespace Go.Proofs.YtjjfglbcikaicaaGreat
open Go.RowKit
set_option linter.unusedVariables false
set_option linter.unusedSimpArgs false
/-- a node whose fuel, and who had the last turn, are forgotten -/
def EN (N : NdS) : NdS := { N with fuel := 1, last := 0 }
theorem EN_idem (N : NdS) : EN (EN N) = EN N := rfl
section
variable {rem : NdS → Int → ByteArray → NdS}
theorem deliverW_E (hr : ∀ M r t, rem (EN M) r t = EN (rem M r t)) (N : NdS) (x : LT) : deliverW rem (EN N) x = EN (deliverW rem N x) := by
  unfold deliverW
  by_cases h1 : x.kind = 1 ∨ x.kind = 2
  · rw [if_pos h1, if_pos h1]
    rcases hf : N.find x.to with _ | a
    · have hf' : (EN N).find x.to = none := hf
      rw [hf']
    · have hf' : (EN N).find x.to = some a := hf
      rw [hf']
      rfl
  · rw [if_neg h1, if_neg h1]
    by_cases h3 : x.kind = 3
    · rw [if_pos h3, if_pos h3]; rfl
    · rw [if_neg h3, if_neg h3]
      by_cases h4 : x.kind = 4
      · rw [if_pos h4, if_pos h4]; rfl
      · rw [if_neg h4, if_neg h4]
        by_cases h5 : x.kind = 5
        · rw [if_pos h5, if_pos h5]
          rcases hl : linkedL N.rows x.to x.frm with _ | _
          · have hl' : linkedL (EN N).rows x.to x.frm = false := hl
            rw [hl', if_neg Bool.false_ne_true, if_neg Bool.false_ne_true]
          · have hl' : linkedL (EN N).rows x.to x.frm = true := hl
            rw [hl', if_pos rfl, if_pos rfl]
            exact hr _ _ _
        · rw [if_neg h5, if_neg h5]
theorem send1W_E (hr : ∀ M r t, rem (EN M) r t = EN (rem M r t)) (N : NdS) (x : LT) : send1W rem (EN N) x = EN (send1W rem N x) := by
  unfold send1W
  rcases hh : N.has x.to with _ | _
  · have hh' : (EN N).has x.to = false := hh
    rw [hh', if_neg Bool.false_ne_true, if_neg Bool.false_ne_true]
    by_cases hl : locN N x.to ≠ N.id
    · have hl' : locN (EN N) x.to ≠ (EN N).id := hl
      rw [if_pos hl', if_pos hl]; rfl
    · have hl' : ¬ locN (EN N) x.to ≠ (EN N).id := hl
      rw [if_neg hl', if_neg hl]
  · have hh' : (EN N).has x.to = true := hh
    rw [hh', if_pos rfl, if_pos rfl]
    exact deliverW_E hr N x
theorem replyW_E (hr : ∀ M r t, rem (EN M) r t = EN (rem M r t)) (N : NdS) (x : LT) : replyW rem (EN N) x = EN (replyW rem N x) := by
  unfold replyW
  rcases noneL x with _ | y
  · rfl
  · exact send1W_E hr N y
theorem sendW_E (hr : ∀ M r t, rem (EN M) r t = EN (rem M r t)) (N : NdS) (x : LT) : sendW rem (EN N) x = EN (sendW rem N x) := by
  unfold sendW
  rcases hh : N.has x.to with _ | _
  · have hh' : (EN N).has x.to = false := hh
    rw [hh', if_neg Bool.false_ne_true, if_neg Bool.false_ne_true]
    by_cases hl : locN N x.to ≠ N.id
    · have hl' : locN (EN N) x.to ≠ (EN N).id := hl
      rw [if_pos hl', if_pos hl]; rfl
    · have hl' : ¬ locN (EN N) x.to ≠ (EN N).id := hl
      rw [if_neg hl', if_neg hl]
      exact replyW_E hr N x
  · have hh' : (EN N).has x.to = true := hh
    rw [hh', if_pos rfl, if_pos rfl]
    exact deliverW_E hr N x
theorem foldl_E (hr : ∀ M r t, rem (EN M) r t = EN (rem M r t)) : ∀ (l : List LT) (N : NdS), l.foldl (sendW rem) (EN N) = EN (l.foldl (sendW rem) N)
  | [], N => rfl
  | x :: l, N => by
    rw [List.foldl_cons, List.foldl_cons, sendW_E hr]
    exact foldl_E hr l _
end
theorem remN_E : ∀ (k : Nat) (N : NdS) (ref : Int) (failed : Bool) (text : ByteArray), remN k (EN N) ref failed text = EN (remN k N ref failed text)
  | 0, N, _, _, _ => rfl
  | k + 1, N, ref, failed, text => foldl_E (fun M r t => remN_E k M r true t) _ { N.delA ref with rows := goneL N.rows ref }
theorem sendN_E (N : NdS) (x : LT) : sendN (EN N) x = EN (sendN N x) := sendW_E (fun M r t => remN_E 60 M r true t) N x
theorem spawnN_E (N : NdS) (nm : ByteArray) : (spawnN (EN N) nm).1 = EN (spawnN N nm).1 ∧ (spawnN (EN N) nm).2 = (spawnN N nm).2 := by
  unfold spawnN
  dsimp only
  rcases hm : makeN N.scr nm with _ | l
  · have hm' : makeN (EN N).scr nm = none := hm
    rw [hm']
    exact ⟨rfl, rfl⟩
  · have hm' : makeN (EN N).scr nm = some l := hm
    rw [hm']
    dsimp only
    by_cases h1 : N.has (N.id * 1000 + N.spawned + 1) = true
    · have h1' : (EN N).has ((EN N).id * 1000 + (EN N).spawned + 1) = true := h1
      rw [if_pos h1', if_pos h1]
      exact ⟨rfl, rfl⟩
    · have h1' : ¬ (EN N).has ((EN N).id * 1000 + (EN N).spawned + 1) = true := h1
      rw [if_neg h1', if_neg h1]
      by_cases h2 : 60 ≤ N.acts.length ∨ 999 ≤ N.spawned
      · have h2' : 60 ≤ (EN N).acts.length ∨ 999 ≤ (EN N).spawned := h2
        rw [if_pos h2', if_pos h2]
        exact ⟨rfl, rfl⟩
      · have h2' : ¬ (60 ≤ (EN N).acts.length ∨ 999 ≤ (EN N).spawned) := h2
        rw [if_neg h2', if_neg h2]
        exact ⟨rfl, rfl⟩
theorem armN_E (N2 : NdS) (r : Int) (a : ActS) (o : OutS) : (armN (EN N2) r a o).1 = EN (armN N2 r a o).1 ∧ (armN (EN N2) r a o).2 = (armN N2 r a o).2 := by
  unfold armN
  by_cases h2 : o.kind = 2
  · rw [if_pos h2, if_pos h2]; exact ⟨rfl, rfl⟩
  rw [if_neg h2, if_neg h2]
  by_cases h3 : o.kind = 3
  · rw [if_pos h3, if_pos h3]; exact ⟨sendN_E _ _, rfl⟩
  rw [if_neg h3, if_neg h3]
  by_cases h5 : o.kind = 5
  · rw [if_pos h5, if_pos h5]; exact ⟨sendN_E _ _, rfl⟩
  rw [if_neg h5, if_neg h5]
  by_cases h6 : o.kind = 6
  · rw [if_pos h6, if_pos h6]; exact ⟨sendN_E { N2 with rows := linkL N2.rows r o.num } _, rfl⟩
  rw [if_neg h6, if_neg h6]
  by_cases h4 : o.kind = 4
  · rw [if_pos h4, if_pos h4]
    dsimp only
    obtain ⟨e1, e2⟩ := spawnN_E N2 o.text
    rw [e1, e2]
    refine ⟨?_, rfl⟩
    rcases hf : (spawnN N2 o.text).1.find r with _ | b
    · have hf' : (EN (spawnN N2 o.text).1).find r = none := hf
      rw [hf']
    · have hf' : (EN (spawnN N2 o.text).1).find r = some b := hf
      rw [hf']
      rfl
  rw [if_neg h4, if_neg h4]
  by_cases h7 : o.kind = 7
  · rw [if_pos h7, if_pos h7]; exact ⟨rfl, rfl⟩
  rw [if_neg h7, if_neg h7]
  by_cases h8 : o.kind = 8
  · rw [if_pos h8, if_pos h8]; exact ⟨remN_E _ _ _ _ _, rfl⟩
  rw [if_neg h8, if_neg h8]
  by_cases h9 : o.kind = 9
  · rw [if_pos h9, if_pos h9]; exact ⟨remN_E _ _ _ _ _, rfl⟩
  rw [if_neg h9, if_neg h9]
  exact ⟨rfl, rfl⟩
/-- a step at fuel 1 -/
def mstep (r : Int) (N : NdS) : NdS := EN (stepN (EN N) r).1
def mIter (r : Int) : Nat → NdS → NdS
  | 0, N => N
  | k + 1, N => mIter r k (mstep r N)
theorem mIter_add (r : Int) : ∀ (a b : Nat) (N : NdS), mIter r (a + b) N = mIter r b (mIter r a N)
  | 0, b, N => by rw [Nat.zero_add]; rfl
  | a + 1, b, N => by
    rw [show a + 1 + b = (a + b) + 1 by omega]
    exact mIter_add r a b _
theorem goA_run {a : ActS} (h : a.waits = false) : goA a = (a, true) := by unfold goA; rw [h]; rfl
theorem setA_twice {N : NdS} {a b : ActS} (h : a.ref = b.ref) : (N.setA a).setA b = N.setA b := by
  unfold NdS.setA
  simp only [List.map_map]
  congr 1
  apply List.map_congr_left
  intro c _
  show (if (if c.ref == a.ref then a else c).ref == b.ref then b else (if c.ref == a.ref then a else c)) = if c.ref == b.ref then b else c
  by_cases e : c.ref = a.ref
  · have e1 : (c.ref == a.ref) = true := by simpa using e
    have e2 : (c.ref == b.ref) = true := by rw [← h]; exact e1
    rw [if_pos e1, if_pos e2, if_pos (by simpa using h)]
  · have e1 : (c.ref == a.ref) = false := by simpa using e
    have e2 : (c.ref == b.ref) = false := by rw [← h]; exact e1
    rw [e1, e2]
    simp [e2]
theorem find_setA2 {N : NdS} {r : Int} {a a' : ActS} (hs : N.acts.Pairwise fun a b => a.ref < b.ref) (h : N.find r = some a) (hr : a'.ref = a.ref) : (N.setA a').find r = some a' := by
  obtain ⟨h1, h2⟩ := find_some h
  have hm : a' ∈ (N.setA a').acts := mem_setA.2 (.inl ⟨a, h1, hr.symm, rfl⟩)
  have := find_of_mem (N := N.setA a') (srt_refs (refs_setA a') hs) hm
  rw [hr, h2] at this
  exact this
/-- what an actor that goes on makes of a node at some fuel -/
def goN (f : Nat) (N : NdS) (a : ActS) : NdS := (armN (N.setA { a with d := (runD f a.d).1 }) a.ref { a with d := (runD f a.d).1 } (runD f a.d).2).1
theorem runD_one_or (f : Nat) (d : DiaS) : runD (f + 2) d = runD 1 d ∨ (runD 1 d).2.kind = 1 ∧ (runD 1 d).1 = { d with r := (stepR d.l d.r).1 } ∧ runD (f + 2) d = runD (f + 1) { d with r := (stepR d.l d.r).1 } := by
  by_cases h1 : (d.r.over || d.r.waiting) = true
  · left
    unfold runD
    have e : ∀ k, runR d.l (k + 1) d.r = (d.r, ⟨d.r.lk, d.r.ln, d.r.lt, 0, 0⟩) := fun k => by unfold runR; rw [if_pos h1]
    rw [e 0, show f + 2 = (f + 1) + 1 from rfl, e (f + 1)]
  · by_cases h2 : d.r.giving = true
    · left
      unfold runD
      have e : ∀ k, runR d.l (k + 1) d.r = (d.r, outO 1 0) := fun k => by unfold runR; rw [if_neg h1, if_pos h2]
      rw [e 0, show f + 2 = (f + 1) + 1 from rfl, e (f + 1)]
    · by_cases h3 : (stepR d.l d.r).2.kind = 1
      · right
        have e : ∀ k, runR d.l (k + 1) d.r = runR d.l k (stepR d.l d.r).1 := fun k => by
          conv => lhs; unfold runR
          rw [if_neg h1, if_neg h2, if_pos h3]
        refine ⟨?_, ?_, ?_⟩
        · unfold runD
          rw [e 0]
          rfl
        · unfold runD
          rw [e 0]
          rfl
        · unfold runD
          rw [show f + 2 = (f + 1) + 1 from rfl, e (f + 1)]
      · left
        have e : ∀ k, runR d.l (k + 1) d.r = stepR d.l d.r := fun k => by
          conv => lhs; unfold runR
          rw [if_neg h1, if_neg h2, if_neg h3]
        unfold runD
        rw [e 0, show f + 2 = (f + 1) + 1 from rfl, e (f + 1)]
theorem goN_steps : ∀ (f : Nat) (N : NdS) (a : ActS), N.acts.Pairwise (fun a b => a.ref < b.ref) → N.find a.ref = some a → a.waits = false → ∃ j, EN (goN (f + 1) N a) = mIter a.ref (j + 1) (EN N)
  | 0, N, a, hs, hf, hw => by
    refine ⟨0, ?_⟩
    show EN (goN 1 N a) = EN (stepN (EN N) a.ref).1
    have hf' : (EN N).find a.ref = some a := hf
    have hg := goA_run hw
    rw [stepN_go hf' (by rw [hg])]
    have e1 : (EN N).setA (goA a).1 = EN N := by
      rw [hg]
      unfold NdS.setA
      have : ((EN N).acts.map fun b => if b.ref == a.ref then a else b) = (EN N).acts := by
        refine (List.map_congr_left fun b hb => ?_).trans (List.map_id _)
        by_cases e : b.ref = a.ref
        · have := srt_uniq hs b a hb (find_some hf).1 e
          subst this
          simp
        · have : (b.ref == a.ref) = false := by simpa using e
          rw [this]
          rfl
      rw [this]
    rw [e1]
    have e2 : ranA (EN N) a = { a with d := (runD 1 a.d).1 } := by unfold ranA; rw [hg]; rfl
    have e3 : (runD (EN N).fuel (goA a).1.d).2 = (runD 1 a.d).2 := by rw [hg]; rfl
    rw [e2, e3]
    have := (armN_E (N.setA { a with d := (runD 1 a.d).1 }) a.ref { a with d := (runD 1 a.d).1 } (runD 1 a.d).2).1
    show _ = EN (armN (EN (N.setA { a with d := (runD 1 a.d).1 })) _ _ _).1
    rw [this]
    rfl
  | f + 1, N, a, hs, hf, hw => by
    rcases runD_one_or f a.d with e | ⟨e1, e2, e3⟩
    · obtain ⟨j, hj⟩ := goN_steps 0 N a hs hf hw
      refine ⟨j, ?_⟩
      rw [← hj]
      unfold goN
      rw [show f + 1 + 1 = f + 2 from rfl, e]
    · obtain ⟨j1, hj1⟩ := goN_steps 0 N a hs hf hw
      have h1 : goN 1 N a = N.setA { a with d := { a.d with r := (stepR a.d.l a.d.r).1 } } := by
        unfold goN armN
        rw [e1, e2]
        rfl
      have hf1 := find_setA2 (a' := { a with d := { a.d with r := (stepR a.d.l a.d.r).1 } }) hs hf rfl
      obtain ⟨j2, hj2⟩ := goN_steps f (N.setA { a with d := { a.d with r := (stepR a.d.l a.d.r).1 } }) { a with d := { a.d with r := (stepR a.d.l a.d.r).1 } } (srt_refs (refs_setA _) hs) hf1 hw
      refine ⟨j1 + 1 + j2, ?_⟩
      rw [show j1 + 1 + j2 + 1 = (j1 + 1) + (j2 + 1) by omega, mIter_add, ← hj1, show (0 : Nat) + 1 = 1 from rfl, h1]
      rw [← hj2]
      unfold goN
      dsimp only
      rw [setA_twice (a := { a with d := { a.d with r := (stepR a.d.l a.d.r).1 } }) (b := { a with d := (runD (f + 1) { a.d with r := (stepR a.d.l a.d.r).1 }).1 }) rfl, show f + 1 + 1 = f + 2 from rfl, e3]
theorem setA_id {N : NdS} (hs : N.acts.Pairwise fun a b => a.ref < b.ref) {a : ActS} (ha : a ∈ N.acts) : N.setA a = N := by
  unfold NdS.setA
  have : (N.acts.map fun b => if b.ref == a.ref then a else b) = N.acts := by
    refine (List.map_congr_left fun b hb => ?_).trans (List.map_id _)
    by_cases e : b.ref = a.ref
    · have := srt_uniq hs b a hb ha e
      subst this
      simp
    · have : (b.ref == a.ref) = false := by simpa using e
      rw [this]
      rfl
  rw [this]
theorem goA_ref (a : ActS) : (goA a).1.ref = a.ref := by
  unfold goA
  split
  · unfold wakeA
    split
    · rfl
    · split <;> rfl
  · rfl
theorem goA_wt {a : ActS} (h : (goA a).2 = true) : (goA a).1.waits = false := by
  unfold goA at h ⊢
  rcases hw : a.waits with _ | _
  · rw [if_neg Bool.false_ne_true]
    exact hw
  · rw [hw] at h
    rw [if_pos rfl] at h ⊢
    unfold wakeA at h ⊢
    split
    · rfl
    · split
      · rfl
      · rename_i h1 h2
        rw [h1] at h
        dsimp only at h
        rw [if_neg h2] at h
        cases h
/-- a step at any fuel -/
theorem stepN_m {N : NdS} (r : Int) (hs : N.acts.Pairwise fun a b => a.ref < b.ref) (hf : 1 ≤ N.fuel) : ∃ j, EN (stepN N r).1 = mIter r j (EN N) := by
  rcases ha : N.find r with _ | a
  · refine ⟨0, ?_⟩
    unfold stepN
    rw [ha]
    rfl
  · obtain ⟨hm, hr⟩ := find_some ha
    have ha' : (EN N).find r = some a := ha
    rcases hg : (goA a).2 with _ | _
    · refine ⟨1, ?_⟩
      rw [stepN_no ha hg]
      show _ = EN (stepN (EN N) r).1
      rw [stepN_no ha' hg]
      rfl
    · have hw := goA_wt hg
      have hrr : (goA a).1.ref = r := (goA_ref a).trans hr
      have hf1 : (N.setA (goA a).1).find r = some (goA a).1 := find_setA2 hs ha (goA_ref a)
      have hs1 : (N.setA (goA a).1).acts.Pairwise fun a b => a.ref < b.ref := srt_refs (refs_setA _) hs
      obtain ⟨f, hfe⟩ : ∃ f, N.fuel = f + 1 := ⟨N.fuel - 1, by omega⟩
      obtain ⟨j, hj⟩ := goN_steps f (N.setA (goA a).1) (goA a).1 hs1 (by rw [hrr]; exact hf1) hw
      refine ⟨j + 1, ?_⟩
      have e1 : (stepN N r).1 = goN (f + 1) (N.setA (goA a).1) (goA a).1 := by
        rw [stepN_go ha hg]
        unfold goN ranA
        rw [hfe]
        exact congrArg (fun q => (armN ((N.setA (goA a).1).setA { (goA a).1 with d := (runD (f + 1) (goA a).1.d).1 }) q { (goA a).1 with d := (runD (f + 1) (goA a).1.d).1 } (runD (f + 1) (goA a).1.d).2).1) hrr.symm
      rw [e1, hj, hrr]
      show mIter r j (mstep r (EN (N.setA (goA a).1))) = mIter r j (mstep r (EN N))
      have e2 : mstep r (EN (N.setA (goA a).1)) = mstep r (EN N) := by
        have hf1' : (EN (N.setA (goA a).1)).find r = some (goA a).1 := hf1
        have hgr := goA_run hw
        show EN (stepN (EN (N.setA (goA a).1)) r).1 = EN (stepN (EN N) r).1
        rw [stepN_go hf1' (by rw [hgr]), stepN_go ha' hg]
        have e3 : (EN (N.setA (goA a).1)).setA (goA (goA a).1).1 = (EN N).setA (goA a).1 := by
          rw [hgr]
          exact setA_id (N := EN (N.setA (goA a).1)) hs1 (find_some hf1').1
        have e4 : ranA (EN (N.setA (goA a).1)) (goA a).1 = ranA (EN N) a := by
          unfold ranA
          rw [hgr]
          rfl
        have e5 : (runD (EN (N.setA (goA a).1)).fuel (goA (goA a).1).1.d).2 = (runD (EN N).fuel (goA a).1.d).2 := by
          rw [hgr]
          rfl
        rw [e3, e4, e5]
      rw [e2]
theorem loopN_m (r : Int) : ∀ (k : Nat) {N : NdS}, N.acts.Pairwise (fun a b => a.ref < b.ref) → 1 ≤ N.fuel → ∃ j, EN (loopN k N r) = mIter r j (EN N)
  | 0, N, hs, hf => ⟨0, rfl⟩
  | k + 1, N, hs, hf => by
    unfold loopN
    split
    · obtain ⟨j1, h1⟩ := stepN_m r hs hf
      split
      · obtain ⟨j2, h2⟩ := loopN_m r k ((stepN_pr N r (b := true) (fun _ _ _ => rfl)).srt hs) (by rw [(stepN_keep N r).fuel]; exact hf)
        exact ⟨j1 + j2, by rw [mIter_add, ← h1]; exact h2⟩
      · exact ⟨j1, h1⟩
    · exact ⟨0, rfl⟩
/-- one alone: a turn is some steps -/
theorem turnN_m {N : NdS} (r : Int) (hs : N.acts.Pairwise fun a b => a.ref < b.ref) (hf : 1 ≤ N.fuel) (ho : ∀ x, N.has x = true → x = r) : ∃ j, EN (turnN N).1 = mIter r j (EN N) := by
  unfold turnN
  by_cases h0 : readyN N = []
  · rw [if_pos h0]
    exact ⟨0, rfl⟩
  · rw [if_neg h0]
    have hn : nextI (readyN N) N.last = r := by
      have hm : nextI (readyN N) N.last ∈ readyN N := by
        unfold nextI
        rcases hf : (readyN N).find? (fun n => decide (N.last < n)) with _ | x
        · rcases hl : readyN N with _ | ⟨a, l⟩
          · exact absurd hl h0
          · simp
        · exact List.mem_of_find?_eq_some hf
      refine ho _ ?_
      unfold readyN at hm
      obtain ⟨a, ha, e⟩ := List.mem_map.1 hm
      exact has_iff.2 ⟨a, (List.mem_filter.1 ha).1, e⟩
    dsimp only
    rw [hn]
    exact loopN_m r N.fuel (N := { N with last := r }) hs hf
theorem mstep_said (r : Int) (N : NdS) : ∃ l, (mstep r N).said = N.said ++ l := by
  obtain ⟨l, hl⟩ := (stepN_pr (b := true) (EN N) r (fun _ _ _ => rfl)).saidL
  exact ⟨l, hl⟩
theorem mIter_said (r : Int) : ∀ (j : Nat) (N : NdS), ∃ l, (mIter r j N).said = N.said ++ l
  | 0, N => ⟨[], by simp [mIter]⟩
  | j + 1, N => by
    obtain ⟨l1, h1⟩ := mstep_said r N
    obtain ⟨l2, h2⟩ := mIter_said r j (mstep r N)
    exact ⟨l1 ++ l2, by rw [← List.append_assoc, ← h1]; exact h2⟩
/-- what is said along two roads is the same as far as both go -/
theorem mIter_same (r : Int) (N : NdS) (i j : Nat) : ∃ l, (mIter r i N).said = (mIter r j N).said ++ l ∨ (mIter r j N).said = (mIter r i N).said ++ l := by
  rcases Nat.le_total i j with h | h
  · obtain ⟨l, hl⟩ := mIter_said r (j - i) (mIter r i N)
    rw [← mIter_add, show i + (j - i) = j by omega] at hl
    exact ⟨l, .inr hl⟩
  · obtain ⟨l, hl⟩ := mIter_said r (i - j) (mIter r j N)
    rw [← mIter_add, show j + (i - j) = i by omega] at hl
    exact ⟨l, .inl hl⟩
end Go.Proofs.YtjjfglbcikaicaaGreat
namespace Go.Proofs.YtjjfglbcikaicaaGreat
open Go.RowKit
set_option linter.unusedVariables false
set_option linter.unusedSimpArgs false
/-- what an actor keeps that spawns no one -/
structure QInl (Q : ActS → Prop) : Prop where
  put : ∀ a x, Q a → Q (putBox a x)
  wake : ∀ a, Q a → a.waits = true → Q (wakeA a).1
  ran : ∀ a f, Q a → a.waits = false → Q { a with d := (runD f a.d).1 }
  wait : ∀ a f, Q a → a.waits = false → (runD f a.d).2.kind = 7 → Q (waitA { a with d := (runD f a.d).1 } (runD f a.d).2.num)
  tick : ∀ a, Q a → Q (tickA a)
  no : ∀ a f, Q a → (runD f a.d).2.kind ≠ 4
section
variable {Q : ActS → Prop} {N : NdS}
variable (hQ : QInl Q)
include hQ
theorem deliverW_inl {rem : NdS → Int → ByteArray → NdS} (hr : ∀ M r t, AllA Q M → AllA Q (rem M r t)) (h : AllA Q N) (x : LT) : AllA Q (deliverW rem N x) := by
  unfold deliverW
  split
  · split
    · exact h
    · rename_i a ha
      exact h.setA (hQ.put a x (h.find ha))
  · split
    · exact h
    · split
      · exact h
      · split
        · split
          · exact hr _ _ _ h
          · exact h
        · exact h
theorem send1W_inl {rem : NdS → Int → ByteArray → NdS} (hr : ∀ M r t, AllA Q M → AllA Q (rem M r t)) (h : AllA Q N) (x : LT) : AllA Q (send1W rem N x) := by
  unfold send1W
  split
  · exact deliverW_inl hQ hr h x
  · split
    · exact h
    · exact h
theorem replyW_inl {rem : NdS → Int → ByteArray → NdS} (hr : ∀ M r t, AllA Q M → AllA Q (rem M r t)) (h : AllA Q N) (x : LT) : AllA Q (replyW rem N x) := by
  unfold replyW
  split
  · exact h
  · exact send1W_inl hQ hr h _
theorem sendW_inl {rem : NdS → Int → ByteArray → NdS} (hr : ∀ M r t, AllA Q M → AllA Q (rem M r t)) (h : AllA Q N) (x : LT) : AllA Q (sendW rem N x) := by
  unfold sendW
  split
  · exact deliverW_inl hQ hr h x
  · split
    · exact h
    · exact replyW_inl hQ hr h x
theorem foldl_inl {rem : NdS → Int → ByteArray → NdS} (hr : ∀ M r t, AllA Q M → AllA Q (rem M r t)) : ∀ (l : List LT) {N : NdS}, AllA Q N → AllA Q (l.foldl (sendW rem) N)
  | [], N, h => h
  | x :: l, N, h => foldl_inl hr l (sendW_inl hQ hr h x)
theorem remN_inl : ∀ (k : Nat) {N : NdS} (ref : Int) (failed : Bool) (text : ByteArray), AllA Q N → AllA Q (remN k N ref failed text)
  | 0, N, _, _, _, h => h
  | k + 1, N, ref, failed, text, h => by
    have h2 : AllA Q ({ N.delA ref with rows := goneL N.rows ref } : NdS) := h.delA ref
    exact foldl_inl hQ (fun M r t hM => remN_inl k r true t hM) _ h2
theorem sendN_inl (h : AllA Q N) (x : LT) : AllA Q (sendN N x) := sendW_inl hQ (fun M r t hM => remN_inl hQ 60 r true t hM) h x
theorem replyN_inl (h : AllA Q N) (x : LT) : AllA Q (replyN N x) := replyW_inl hQ (fun M r t hM => remN_inl hQ 60 r true t hM) h x
theorem deliverN_inl (h : AllA Q N) (x : LT) : AllA Q (deliverN N x) := deliverW_inl hQ (fun M r t hM => remN_inl hQ 60 r true t hM) h x
theorem putN_inl (h : AllA Q N) (x : LT) : AllA Q (putN N x).1 := by
  unfold putN
  split
  · exact h
  · split
    · exact replyN_inl hQ h x
    · split
      · exact h
      · exact deliverN_inl hQ h x
theorem goA_inl {a : ActS} (h : Q a) : Q (goA a).1 := by
  unfold goA
  rcases hw : a.waits with _ | _
  · exact h
  · exact hQ.wake a h hw
theorem stepN_inl (h : AllA Q N) (r : Int) : AllA Q (stepN N r).1 := by
  rcases ha : N.find r with _ | a
  · unfold stepN
    rw [ha]
    exact h
  · have hqa := goA_inl hQ (h.find ha)
    rcases hg : (goA a).2 with _ | _
    · rw [stepN_no ha hg]
      exact h.setA hqa
    · rw [stepN_go ha hg]
      have hw := goA_waits hg
      have hr : Q (ranA N a) := hQ.ran _ _ hqa hw
      have h2 : AllA Q ((N.setA (goA a).1).setA (ranA N a)) := (h.setA hqa).setA hr
      have hwr : (ranA N a).waits = false := hw
      have h7 : (runD N.fuel (goA a).1.d).2.kind = 7 → Q (waitA (ranA N a) (runD N.fuel (goA a).1.d).2.num) := fun h7 => hQ.wait _ _ hqa hw h7
      have h4 : (runD N.fuel (goA a).1.d).2.kind ≠ 4 := hQ.no _ _ hqa
      generalize (N.setA (goA a).1).setA (ranA N a) = N2 at *
      generalize ranA N a = a2 at *
      generalize (runD N.fuel (goA a).1.d).2 = o at *
      unfold armN
      split
      · exact h2
      split
      · exact sendN_inl hQ h2 _
      split
      · exact sendN_inl hQ h2 _
      split
      · exact sendN_inl hQ (show AllA Q { N2 with rows := linkL N2.rows r o.num } from h2) _
      split
      · rename_i h7'
        exact h2.setA (h7 h7')
      split
      · exact remN_inl hQ _ _ _ _ h2
      split
      · exact remN_inl hQ _ _ _ _ h2
      · exact h2
theorem loopN_inl : ∀ (k : Nat) {N : NdS} (r : Int), AllA Q N → AllA Q (loopN k N r)
  | 0, N, r, h => h
  | k + 1, N, r, h => by
    unfold loopN
    split
    · split
      · exact loopN_inl k r (stepN_inl hQ h r)
      · exact stepN_inl hQ h r
    · exact h
theorem turnN_inl (h : AllA Q N) : AllA Q (turnN N).1 := by
  unfold turnN
  split
  · exact h
  · exact loopN_inl hQ _ _ (show AllA Q { N with last := nextI (readyN N) N.last } from h)
theorem tickN_inl (h : AllA Q N) : AllA Q (tickN N) := fun b hb => by
  obtain ⟨a, ha, rfl⟩ := List.mem_map.1 hb
  exact hQ.tick a (h a ha)
end
/-- the one actor of the law -/
def Solo (r : Int) (l : List Stp) (a : ActS) : Prop := a.ref = r ∧ a.d.l = l ∧ a.d.r.lk ≠ 4
theorem stepR_no {l : List Stp} {r : RunS} (hl : ∀ s, s ∈ l → s.kind ≠ 3) (h : r.lk ≠ 4) : (stepR l r).1.lk ≠ 4 ∧ (stepR l r).2.kind ≠ 4 := by
  unfold stepR
  split
  · exact ⟨(fun e => by cases e), (fun e => by cases e)⟩
  rename_i hp
  have hn : (nthS l r.pos).kind ≠ 3 := by
    refine hl _ ?_
    unfold nthS
    rw [List.getD_eq_getElem?_getD, List.getElem?_eq_getElem (by omega)]
    exact List.getElem_mem _
  dsimp only
  split
  · exact ⟨h, (fun e => by cases e)⟩
  split
  · exact ⟨h, (fun e => by cases e)⟩
  split
  · exact ⟨h, (fun e => by cases e)⟩
  split
  · exact ⟨h, (fun e => by cases e)⟩
  split
  · exact ⟨(fun e => by cases e), (fun e => by cases e)⟩
  split
  · exact ⟨(fun e => by cases e), (fun e => by cases e)⟩
  split
  · exact ⟨(fun e => by cases e), (fun e => by cases e)⟩
  split
  · exact ⟨h, (fun e => by cases e)⟩
  · exact ⟨h, (fun e => by cases e)⟩
theorem runR_no {l : List Stp} (hl : ∀ s, s ∈ l → s.kind ≠ 3) : ∀ (f : Nat) {r : RunS}, r.lk ≠ 4 → (runR l f r).1.lk ≠ 4 ∧ (runR l f r).2.kind ≠ 4
  | 0, r, h => ⟨h, (fun e => by cases e)⟩
  | f + 1, r, h => by
    unfold runR
    split
    · exact ⟨h, h⟩
    split
    · exact ⟨h, (fun e => by cases e)⟩
    have h2 := stepR_no hl h
    split
    · exact runR_no hl f h2.1
    · exact h2
theorem runD_no {f : Nat} {d : DiaS} (hl : ∀ s, s ∈ d.l → s.kind ≠ 3) (h : d.r.lk ≠ 4) : (runD f d).1.l = d.l ∧ (runD f d).1.r.lk ≠ 4 ∧ (runD f d).2.kind ≠ 4 := by
  have h2 := runR_no hl f h
  unfold runD
  dsimp only
  split
  · exact ⟨rfl, h2⟩
  · exact ⟨rfl, h2⟩
theorem offerD_no (d : DiaS) (v : VT) (h : d.r.lk ≠ 4) : (offerD d v).1.l = d.l ∧ (offerD d v).1.r.lk ≠ 4 := by
  unfold offerD
  split
  · dsimp only
    have h2 : (offerR d.l d.r (vkind v) (vnum v)).1.lk = d.r.lk := by
      unfold offerR
      split
      · split
        · rfl
        · rfl
      · rfl
    split
    · exact ⟨rfl, by rw [show ∀ x : RunS, (⟨d.nm, d.l, x, 0, 0⟩ : DiaS).r = x from fun _ => rfl]; rw [h2]; exact h⟩
    · exact ⟨rfl, h⟩
  · exact ⟨rfl, h⟩
theorem solo_inl (r : Int) {l : List Stp} (hl : ∀ s, s ∈ l → s.kind ≠ 3) : QInl (Solo r l) where
  put a x h := by
    unfold putBox
    split
    · exact h
    · exact h
  wake a h hw := by
    unfold wakeA
    split
    · rename_i i _
      have := offerD_no a.d ((a.box.getD i zLT).says) h.2.2
      exact ⟨h.1, this.1.trans h.2.1, this.2⟩
    · split
      · refine ⟨h.1, ?_, ?_⟩
        · show (lateD a.d).l = l
          rw [← h.2.1]
          unfold lateD
          first | rfl | (split <;> rfl)
        · show (lateD a.d).r.lk ≠ 4
          have := h.2.2
          unfold lateD
          first | exact this | (split <;> first | exact this | (dsimp only; unfold lateR; split <;> exact this))
      · exact h
  ran a f h hw := by
    have := runD_no (f := f) (d := a.d) (fun s hs => hl s (h.2.1 ▸ hs)) h.2.2
    exact ⟨h.1, this.1.trans h.2.1, this.2.1⟩
  wait a f h hw _ := by
    have := runD_no (f := f) (d := a.d) (fun s hs => hl s (h.2.1 ▸ hs)) h.2.2
    exact ⟨h.1, this.1.trans h.2.1, this.2.1⟩
  tick a h := by
    unfold tickA
    split
    · exact h
    · exact h
  no a f h := (runD_no (f := f) (d := a.d) (fun s hs => hl s (h.2.1 ▸ hs)) h.2.2).2.2
def iterT : Nat → NdS → NdS
  | 0, N => N
  | k + 1, N => (turnN (iterT k N)).1
theorem turnN_fuel (N : NdS) : (turnN N).1.fuel = N.fuel := by
  unfold turnN
  split
  · rfl
  · exact (loopN_keep _ { N with last := nextI (readyN N) N.last } _).fuel
theorem iterT_fuel (N : NdS) : ∀ k, (iterT k N).fuel = N.fuel
  | 0 => rfl
  | k + 1 => (turnN_fuel (iterT k N)).trans (iterT_fuel N k)
theorem iterT_m {N : NdS} {r : Int} {l : List Stp} (hl : ∀ s, s ∈ l → s.kind ≠ 3) (hN : AllA (Solo r l) N) (hs : N.acts.Pairwise fun a b => a.ref < b.ref) (hf : 1 ≤ N.fuel) (k0 : Nat) : ∃ j, EN (iterT k0 N) = mIter r j (EN N) := by
    have hA : ∀ k, AllA (Solo r l) (iterT k N) := fun k => by
      induction k with
      | zero => exact hN
      | succ k ih => exact turnN_inl (solo_inl r hl) ih
    have hS : ∀ k, (iterT k N).acts.Pairwise fun a b => a.ref < b.ref := fun k => by
      induction k with
      | zero => exact hs
      | succ k ih => exact (turnN_pr _).srt ih
    induction k0 with
    | zero => exact ⟨0, rfl⟩
    | succ k ih =>
      obtain ⟨j, hj⟩ := ih
      obtain ⟨j2, h2⟩ := turnN_m (N := iterT k N) r (hS k) (by rw [iterT_fuel]; exact hf) (fun x hx => by
        obtain ⟨a, ha, e⟩ := has_iff.1 hx
        exact e.symm.trans (hA k a ha).1)
      exact ⟨j + j2, by rw [mIter_add, ← hj]; exact h2⟩
/-- what is said of two nodes that differ in their fuel alone, as far as both go -/
theorem iterT_same {N M : NdS} {r : Int} {l : List Stp} (hl : ∀ s, s ∈ l → s.kind ≠ 3) (he : EN N = EN M) (hN : AllA (Solo r l) N) (hs : N.acts.Pairwise fun a b => a.ref < b.ref) (hf : 1 ≤ N.fuel) (hg : 1 ≤ M.fuel) (k : Nat) :
    ∃ t, (iterT k N).said = (iterT k M).said ++ t ∨ (iterT k M).said = (iterT k N).said ++ t := by
  have ha : N.acts = M.acts := by
    have h := congrArg NdS.acts he
    exact h
  obtain ⟨i, hi⟩ := iterT_m hl hN hs hf k
  obtain ⟨j, hj⟩ := iterT_m (N := M) hl (fun a h => hN a (by rw [ha]; exact h)) (by rw [← ha]; exact hs) hg k
  have h1 : (iterT k N).said = (mIter r i (EN N)).said := by rw [← hi]; rfl
  have h2 : (iterT k M).said = (mIter r j (EN N)).said := by rw [he, ← hj]; rfl
  rw [h1, h2]
  exact mIter_same r (EN N) i j
/-- the one actor that begun spawns -/
theorem begunN_one (l0 : List Stp) (x : Int) : begunN [l0] x [⟨1, 0, 0, 0⟩] = { newN 1 [l0] (fuelN x) with acts := [⟨1001, newD ⟨#[48]⟩ l0 0 0 1001, [], 0, false, 0, fun _ => false⟩], rows := addR [] 1001, spawned := 1 } := by
  kernel_rfl
theorem begunN_solo (l0 : List Stp) (x : Int) : AllA (Solo 1001 l0) (begunN [l0] x [⟨1, 0, 0, 0⟩]) := fun a ha => by
  rw [begunN_one] at ha
  have : a = ⟨1001, newD ⟨#[48]⟩ l0 0 0 1001, [], 0, false, 0, fun _ => false⟩ := by simpa using ha
  subst this
  exact ⟨rfl, rfl, fun e => by cases e⟩
theorem begunN_EN (l0 : List Stp) (x y : Int) : EN (begunN [l0] x [⟨1, 0, 0, 0⟩]) = EN (begunN [l0] y [⟨1, 0, 0, 0⟩]) := by
  rw [begunN_one, begunN_one]
  rfl
/-- what two say whose fuels are not the same -/
theorem begunN_same {l0 : List Stp} (hl : ∀ s, s ∈ l0 → s.kind ≠ 3) (x y : Int) (k : Nat) :
    ∃ t, (iterT k (begunN [l0] x [⟨1, 0, 0, 0⟩])).said = (iterT k (begunN [l0] y [⟨1, 0, 0, 0⟩])).said ++ t ∨ (iterT k (begunN [l0] y [⟨1, 0, 0, 0⟩])).said = (iterT k (begunN [l0] x [⟨1, 0, 0, 0⟩])).said ++ t := by
  refine iterT_same hl (begunN_EN l0 x y) (begunN_solo l0 x) ?_ ?_ ?_ k
  · rw [begunN_one]
    simp
  · rw [begunN_one]
    exact (fuelN_le x).1
  · rw [begunN_one]
    exact (fuelN_le y).1
end Go.Proofs.YtjjfglbcikaicaaGreat
namespace Go.Proofs.YtjjfglbcikaicaaGreat
open Go.RowKit
set_option linter.unusedVariables false
set_option linter.unusedSimpArgs false
theorem spawnN_said (N : NdS) (nm : ByteArray) : (spawnN N nm).1.said = N.said := by
  unfold spawnN
  dsimp only
  split
  · rfl
  · split
    · rfl
    · split <;> rfl
theorem armN_saidB (N2 : NdS) (r : Int) (a : ActS) (o : OutS) : (armN N2 r a o).1.said.length ≤ N2.said.length + 1 := by
  unfold armN
  split
  · simp
  split
  · rw [(sendN_keep _ _).said]; omega
  split
  · rw [(sendN_keep _ _).said]; omega
  split
  · rw [(sendN_keep _ _).said]
    show N2.said.length ≤ _
    omega
  split
  · have h := spawnN_said N2 o.text
    dsimp only
    split
    · rw [h]; omega
    · show (spawnN N2 o.text).1.said.length ≤ _
      rw [h]; omega
  split
  · show N2.said.length ≤ _
    omega
  split
  · rw [(remN_keep _ _ _ _ _).said]; omega
  split
  · rw [(remN_keep _ _ _ _ _).said]; omega
  · show N2.said.length ≤ _
    omega
theorem stepN_saidB (N : NdS) (r : Int) : (stepN N r).1.said.length ≤ N.said.length + 1 := by
  rcases ha : N.find r with _ | a
  · unfold stepN
    rw [ha]
    show N.said.length ≤ _
    omega
  · rcases hg : (goA a).2 with _ | _
    · rw [stepN_no ha hg]
      show N.said.length ≤ _
      omega
    · rw [stepN_go ha hg]
      exact armN_saidB _ _ _ _
theorem loopN_saidB : ∀ (k : Nat) (N : NdS) (r : Int), (loopN k N r).said.length ≤ N.said.length + k
  | 0, N, r => Nat.le_refl _
  | k + 1, N, r => by
    have h1 := stepN_saidB N r
    have h2 := loopN_saidB k (stepN N r).1 r
    unfold loopN
    split
    · split
      · omega
      · show (stepN N r).1.said.length ≤ _
        omega
    · show N.said.length ≤ _
      omega
theorem turnN_saidB (N : NdS) : (turnN N).1.said.length ≤ N.said.length + N.fuel := by
  unfold turnN
  split
  · show N.said.length ≤ _
    omega
  · exact loopN_saidB N.fuel { N with last := nextI (readyN N) N.last } _
theorem iterT_saidB (N : NdS) : ∀ k, (iterT k N).said.length ≤ N.said.length + k * N.fuel
  | 0 => by unfold iterT; omega
  | k + 1 => by
    have h1 := turnN_saidB (iterT k N)
    rw [iterT_fuel] at h1
    have h2 := iterT_saidB N k
    unfold iterT
    rw [Nat.add_mul, Nat.one_mul]
    omega
theorem begunN_saidB (l0 : List Stp) (x : Int) {k : Nat} (hk : k ≤ 30) : (iterT k (begunN [l0] x [⟨1, 0, 0, 0⟩])).said.length ≤ 600 := by
  have h := iterT_saidB (begunN [l0] x [⟨1, 0, 0, 0⟩]) k
  rw [begunN_one] at h ⊢
  have h0 : (fuelN x) ≤ 20 := (fuelN_le x).2
  have h1 : k * fuelN x ≤ 30 * 20 := Nat.mul_le_mul hk h0
  have h2 : (({ newN 1 [l0] (fuelN x) with acts := [⟨1001, newD ⟨#[48]⟩ l0 0 0 1001, [], 0, false, 0, fun _ => false⟩], rows := addR [] 1001, spawned := 1 } : NdS).said.length) = 0 := rfl
  have h3 : (({ newN 1 [l0] (fuelN x) with acts := [⟨1001, newD ⟨#[48]⟩ l0 0 0 1001, [], 0, false, 0, fun _ => false⟩], rows := addR [] 1001, spawned := 1 } : NdS).fuel) = fuelN x := rfl
  rw [h2, h3] at h
  omega
end Go.Proofs.YtjjfglbcikaicaaGreat
namespace Go.Proofs.YtjjfglbcikaicaaGreat
open Go.RowKit Go.ChangeShapes Go.WideShapes
set_option linter.unusedVariables false
set_option linter.unusedSimpArgs false
/-- the script of the law, as tame takes it -/
theorem argScrs_one {w w1 : World} {A : Option Addr} {c : Nat} {l : List Stp} (h : ArgScr w (fun b => b < w.heap.size) (.slice A l.length c) l) (hw : StpsWf l) (hf : Fr (fun _ => False) w w1) (ty : TypeId) : ArgScrs (w1.alloc (.cells #[.slice A l.length c] ty)) (fun b => b < (w1.alloc (.cells #[.slice A l.length c] ty)).heap.size) (.slice (some ⟨w1.heap.size, 0, none⟩) 1 1) [l] := by
  have hf2 : Fr (fun _ => False) w (w1.alloc (.cells #[.slice A l.length c] ty)) := hf.alloc _
  have hz := hf2.size
  refine ⟨_, 1, rfl, Nat.le_refl _, by omega, fun x hx => by
    have : x = l := by simpa using hx
    rw [this]; exact hw, fun i hi => ?_⟩
  obtain rfl : i = 0 := by simpa using hi
  refine ⟨w1.heap.size, 0, .slice A l.length c, rfl, by simp, by simp [go_sem], ?_⟩
  obtain ⟨A1, c1, vo, e, h1, h2, h3, h4⟩ := h
  refine ⟨A1, c1, vo, e, h1, h2, fun h0 => ?_, fun k hk => ?_⟩
  · obtain ⟨b, off, e2, hb, hc⟩ := h3 h0
    exact ⟨b, off, e2, Nat.lt_of_lt_of_le hb hz, fun k hk j u hu => hf2.cell (hc k hk j u hu) (fun h => h)⟩
  · exact (h4 k hk).fr hf2 (fun _ _ h => h) (fun b hb => Nat.lt_of_lt_of_le hb hz)
/-- what is said after k turns, in numbers -/
def numsL (l : List Stp) (x : Int) (k : Nat) : List Int := (iterT k (begunN [l] x [⟨1, 0, 0, 0⟩])).said.map (·.2)
theorem numsL_len (l : List Stp) (x : Int) {k : Nat} (hk : k ≤ 30) : (numsL l x k).length ≤ 600 := by
  unfold numsL
  rw [List.length_map]
  exact begunN_saidB l x hk
/-- the fuel of a round -/
def fgF (f g : Int) (i : Nat) : Int := if i = 0 then f else g
theorem index_two (f g : Int) {c : Nat} (hc : c < 2) : ∀ W : World, (Instr.index 67 (.agg #[.int .i64 f, .int .i64 g]) (.int .i64 (c : Int))).run Tryz.prog W = .ok (.int .i64 (fgF f g c)) W := by
  have h : c = 0 ∨ c = 1 := by omega
  rcases h with rfl | rfl <;> (intro W; kernel_rfl)
/-- the rows before round c -/
def fuelL (l : List Stp) (f g : Int) (k c i : Nat) : List Int := if i < c then numsL l (fgF f g i) k else []
/-- block h holds the rows of what was said -/
structure FuelW (w0 : World) (h : Nat) (L : Nat → List Int) (v : Nat → Value) (w : World) : Prop where
  fr : Fr (fun k => k = h) w0 w
  cell : ∀ i, i < 2 → w.cell? ⟨h, i, none⟩ = some (v i)
  fz : ∀ o, w.frozen? ⟨h, o, none⟩ = false
  row : ∀ i, i < 2 → OwnI w (h + 1) (v i) (L i)
  dis : ∀ i j, i < 2 → j < 2 → i ≠ j → ∀ k, (v i).ownBlock = some k → (v j).ownBlock ≠ some k
  lt : h < w.heap.size
  sz : w0.heap.size = h + 1
theorem FuelW.new {w0 w w' : World} {h : Nat} {L : Nat → List Int} {v : Nat → Value} {S : Nat → Prop} (H : FuelW w0 h L v w) (hf : Fr S w w') (hS : ∀ k, S k → w.heap.size ≤ k) : FuelW w0 h L v w' where
  fr := H.fr.trans hf (fun k hk => by
    have := hS k hk
    have := H.fr.size
    omega)
  cell i hi := hf.cell (H.cell i hi) (fun h => by have := hS _ h; have := H.lt; omega)
  fz o := (hf.frozen H.lt (fun h => by have := hS _ h; have := H.lt; omega)).trans (H.fz o)
  row i hi := hf.row (H.row i hi) (fun k hk hs => by have := hS _ hs; have := ((H.row i hi).blk k hk).2; omega)
  dis := H.dis
  lt := Nat.lt_of_lt_of_le H.lt hf.size
  sz := H.sz
theorem FuelW.congr {w0 w : World} {h : Nat} {L L' : Nat → List Int} {v : Nat → Value} (H : FuelW w0 h L v w) (he : ∀ i, i < 2 → L i = L' i) : FuelW w0 h L' v w := { H with row := fun i hi => he i hi ▸ H.row i hi }
/-- one number more in row c -/
theorem FuelW.push {w0 w w5 : World} {h : Nat} {L : Nat → List Int} {v : Nat → Value} (H : FuelW w0 h L v w) {c : Nat} (hc : c < 2) {v' : Value} {x : Int} (hg : w.grownBy w5 (v c).ownBlock) (hr : OwnI w5 (h + 1) v' (L c ++ [x])) (hat : ∀ k, v'.ownBlock = some k → (v c).ownBlock = some k ∨ w.heap.size ≤ k) :
    FuelW w0 h (fun i => if i = c then L c ++ [x] else L i) (fun i => if i = c then v' else v i) (w5.setCell ⟨h, c, none⟩ v') := by
  have hf5 : Fr (fun k => (v c).ownBlock = some k) w w5 := Fr.of_grown hg (fun k hk => .inl hk)
  have hne : ∀ i, i < 2 → ∀ k, (v i).ownBlock = some k → k ≠ h := fun i hi k hk e => by have := ((H.row i hi).blk k hk).1; omega
  have hne' : ∀ k, v'.ownBlock = some k → k ≠ h := fun k hk e => by have := (hr.blk k hk).1; omega
  have hnh : ¬ (v c).ownBlock = some h := fun e => hne c hc h e rfl
  have hf6 : Fr (fun k => k = h) w5 (w5.setCell ⟨h, c, none⟩ v') := Fr.setAt (Fr.refl _ w5) _
  refine ⟨?_, fun i hi => ?_, fun o => ?_, fun i hi => ?_, fun i j hi hj hij k hk => ?_, ?_, H.sz⟩
  · refine H.fr.trans ((hf5.weak (S2 := fun k => k = h ∨ (v c).ownBlock = some k) (fun k hk => .inr hk)).trans' (hf6.weak (fun k hk => .inl hk))) (fun k hk => ?_)
    rcases hk with hk | hk
    · exact .inl hk
    · right
      have h1 := ((H.row c hc).blk k hk).1
      have h2 := H.sz
      omega
  · by_cases e : i = c
    · subst e
      rw [if_pos rfl]
      exact set_this (hf5.cell (H.cell i hi) hnh)
    · rw [if_neg e]
      exact set_other (hf5.cell (H.cell i hi) hnh) e
  · exact set_fz (fun o => (hf5.frozen H.lt hnh).trans (H.fz o)) o
  · by_cases e : i = c
    · subst e
      rw [if_pos rfl, if_pos rfl]
      exact hf6.row hr hne'
    · rw [if_neg e, if_neg e]
      exact hf6.row (hf5.row (H.row i hi) (fun k hk hk2 => H.dis i c hi hc e k hk hk2)) (hne i hi)
  · by_cases e : i = c
    · subst e
      rw [if_pos rfl] at hk
      rw [if_neg (fun e => hij e.symm)]
      intro hk2
      rcases hat k hk with h1 | h1
      · exact H.dis i j hi hj hij k h1 hk2
      · have := ((H.row j hj).blk k hk2).2; omega
    · rw [if_neg e] at hk
      by_cases e2 : j = c
      · subst e2
        rw [if_pos rfl]
        intro hk2
        rcases hat k hk2 with h1 | h1
        · exact H.dis i j hi hj hij k hk h1
        · have := ((H.row i hi).blk k hk).2; omega
      · rw [if_neg e2]
        exact H.dis i j hi hj hij k hk
  · have := hf5.size
    have := H.lt
    simp
    omega
theorem lst_map (l : List (Int × Int)) (i : Nat) : lst (l.map (·.2)) i = (l.getD i (0, 0)).2 := by
  unfold lst
  rw [List.getD_eq_getElem?_getD, List.getD_eq_getElem?_getD, List.getElem?_map]
  rcases l[i]? with _ | x <;> rfl
theorem take_more (l : List (Int × Int)) {i : Nat} (hi : i < l.length) : (l.map (·.2)).take i ++ [(l.getD i (0, 0)).2] = (l.map (·.2)).take (i + 1) := by
  rw [List.take_add_one, List.getElem?_map, List.getElem?_eq_getElem hi, List.getD_eq_getElem?_getD, List.getElem?_eq_getElem hi]
  rfl
theorem lst_app (l t : List Int) {i : Nat} (hi : i < l.length) : lst (l ++ t) i = lst l i := by
  unfold lst
  rw [List.getD_eq_getElem?_getD, List.getD_eq_getElem?_getD, List.getElem?_append_left hi]
/-- what the two say, as far as both go -/
theorem nums_same {q : List Stp} (h : ∀ k, k < q.length → (nthS q k).kind ≠ 3) (f g : Int) (k : Nat) {i : Nat} (h1 : i < (numsL q f k).length) (h2 : i < (numsL q g k).length) : lst (numsL q f k) i = lst (numsL q g k) i := by
  have hq : ∀ s, s ∈ q → s.kind ≠ 3 := fun s hs => by
    obtain ⟨j, hj, rfl⟩ := List.mem_iff_getElem.1 hs
    have := h j hj
    unfold nthS at this
    rw [List.getD_eq_getElem?_getD, List.getElem?_eq_getElem hj] at this
    exact this
  obtain ⟨t, ht⟩ := begunN_same hq f g k
  rcases ht with ht | ht
  · have e : numsL q f k = numsL q g k ++ t.map (·.2) := by unfold numsL; rw [ht, List.map_append]
    rw [e, lst_app _ _ h2]
  · have e : numsL q g k = numsL q f k ++ t.map (·.2) := by unfold numsL; rw [ht, List.map_append]
    rw [e, lst_app _ _ h1]
end Go.Proofs.YtjjfglbcikaicaaGreat
namespace Go.Proofs.YtjjfglbcikaicaaGreat
open Go.RowKit Go.ChangeShapes Go.WideShapes
set_option linter.unusedVariables false
set_option linter.unusedSimpArgs false
set_option maxRecDepth 100000 in
set_option maxHeartbeats 16000000 in
theorem nodeFuel_walk {H : Type} {enc : TypeId × Value → H} (W : World) (base : Nat) (v0 v1 v2 v3 : Value) {d0 d1 d2 d3 : DataW H} {p0 p1 p2 p3 : List MemPlace}
    (k0 : Value.okWide Tryz.prog W .any base 29 v0) (k1 : Value.okWide Tryz.prog W .any base 3 v1) (k2 : Value.okWide Tryz.prog W .any base 3 v2) (k3 : Value.okWide Tryz.prog W .any base 3 v3)
    (h0 : DataW.Trod enc Tryz.prog W 0 (fun _ => true) true 29 v0 d0 p0) (h1 : DataW.Trod enc Tryz.prog W 0 (fun _ => true) true 3 v1 d1 p1) (h2 : DataW.Trod enc Tryz.prog W 0 (fun _ => true) true 3 v2 d2 p2) (h3 : DataW.Trod enc Tryz.prog W 0 (fun _ => true) true 3 v3 d3 p3) :
    Calls Tryz.prog 8 #[v0, v1, v2, v3] W fun e W' => e = .returned (.bool true) ∧ Below W.heap.size W W' := by
  have hs0 : ∃ l, ArgScr W (fun b => b < W.heap.size) v0 l ∧ StpsWf l := by
    obtain ⟨a0, l0, cp0, rfl⟩ := okWide_slice Tryz.underlying29 k0
    obtain ⟨n, h0⟩ := h0
    exact open_script (by simpa [Value.cells] using h0)
  obtain ⟨l, hl, hw⟩ := hs0
  obtain ⟨f, rfl, _, _, _⟩ := open_int Tryz.underlying3 k1 h1
  obtain ⟨g, rfl, _, _, _⟩ := open_int Tryz.underlying3 k2 h2
  obtain ⟨n, rfl, _, _, _⟩ := open_int Tryz.underlying3 k3 h3
  have HL0 := Lib.hid hl
  obtain ⟨A0, c0, vo0, rfl, -⟩ := hl
  have HW := Lib.hid hw
  clear k0 k1 k2 k3 h0 h1 h2 h3 hw
  go_enter Tryz.func8, Tryz.ntmps8
  go_wp2_with fail
  refine (nodes_any W).mono ?_
  rintro e w1 ⟨rfl, hb1⟩
  have HF1 := Lib.hid (Fr.of_below (S := fun _ => False) hb1)
  clear hb1
  have HTM := Lib.hid (tame_anyF _ [l] _ (argScrs_one HL0.out HW.out HF1.out 29))
  have htl : tameL [l] = [tameScr 1 l] := rfl
  have HTW := Lib.hid (tameL_wf (L := [l]) (fun x hx => by
    have : x = l := by simpa using hx
    rw [this]; exact HW.out))
  rw [htl] at HTM HTW
  obtain ⟨l1, hl1⟩ : ∃ l1, tameScr 1 l = l1 := ⟨_, rfl⟩
  rw [hl1] at HTM HTW
  clear htl hl1
  go_wp2_with fail
  refine HTM.out.mono ?_
  rintro e w2 ⟨v', V', rfl, hr2, hb2⟩
  have HF2 := Lib.hid ((HF1.out.alloc (.cells #[.slice A0 l.length c0] 29)).trans' (Fr.of_below (S := fun _ => False) hb2))
  have hsz2 := HF2.out.size
  have hb0 : W.heap.size ≤ (w1.alloc (.cells #[.slice A0 l.length c0] 29)).heap.size := (HF1.out.alloc _).size
  generalize (w1.alloc (.cells #[.slice A0 l.length c0] 29)).heap.size = B2 at *
  have HR2 := Lib.hid hr2
  obtain ⟨g0, cs, rfl, hg0, hg1, hcs1, hcs2⟩ := own_form hr2.row (by simp)
  obtain ⟨A1, c1, vo1, hV, hscr⟩ := hr2.each 0 (by simp)
  have hV' : V' 0 = .slice A1 l1.length c1 := hV
  have hscr' : ScrOf w2 (fun b => B2 ≤ b ∧ b < w2.heap.size ∧ b ≠ g0) (fun b => b < B2) A1 c1 l1 vo1 := hscr.fr (Fr.refl (fun _ => False) _) (fun _ _ h => h) (fun b hb => ⟨hb.1, hb.2.1, fun e => hb.2.2 (by rw [e]; rfl)⟩) (fun _ _ h => h) (fun _ h => h)
  have cg0 : w2.cell? ⟨g0, 0, none⟩ = some (.slice A1 l1.length c1) := by
    have := own_cellC hr2.row (fun k => rfl) (k := 0) (by simp) (j := 0) (by omega)
    rw [← hV']
    simpa using this
  have HS2 := Lib.hid hscr'
  clear hr2 hb2 HTM HL0 HW HR2 hV hV' hscr hscr'
  go_wp2_with fail
  go_loopw [10, 27] (fun _ v27 wr => ∃ (i : Nat) (q : List Stp), i ≤ l1.length ∧ v27 = .int .i64 (i : Int) ∧ q.length = l1.length ∧ Hid (∀ k, k < i → (nthS q k).kind ≠ 3) ∧ Hid (StpsWf q) ∧ Hid (ScrOf wr (fun b => B2 ≤ b ∧ b < w2.heap.size ∧ b ≠ g0) (fun b => b < B2) A1 c1 q vo1) ∧ Hid (Fr (fun b => B2 ≤ b ∧ b ≠ g0) w2 wr)) (fun _ v27 _ => l1.length - (intOf v27).toNat)
  case atStart => exact ⟨0, l1, Nat.zero_le _, rfl, rfl, Lib.hid (fun k hk => by omega), Lib.hid (HTW.out l1 (by simp)), HS2, Lib.hid (Fr.refl _ _)⟩
  case round =>
    obtain ⟨i, q, hi, rfl, hq, HK, HWq, HSq, HFq⟩ := hrel
    have cgr := HFq.out.cell cg0 (fun h => h.2 rfl)
    have hzr := HFq.out.size
    have hqb := HSq.out.2.2.1
    by_cases hlt : i < l1.length
    · have hs := HSq.out
      obtain ⟨b, off, rfl, hbB, hbz, hbc⟩ := hs.2.2.2.1 (by omega)
      have y0 : wr.cell? ⟨b, off + i * 4, none⟩ = some (.int .i64 (nthS q i).kind) := hbc i (by omega) 0 _ rfl
      obtain ⟨kd, hkd⟩ : ∃ kd, (nthS q i).kind = kd := ⟨_, rfl⟩
      rw [hkd] at y0
      have HBB := Lib.hid hbB
      have i1 : (0 : Int) ≤ (i : Int) := by omega
      have i2 : (i : Int) < (l1.length : Int) := by omega
      clear hs hbc hbB
      by_cases h3 : kd = 3
      · subst h3
        go_wp2_with fail
        go_roundw
        case rel => 
          refine ⟨i + 1, setK q i, by omega, by go_num, by rw [setK_len]; exact hq, Lib.hid (fun k hk => ?_), Lib.hid (fun x hx => ?_), Lib.hid (HSq.out.write (by omega) (fun x hx => by have := HBB.out.1; omega)), Lib.hid (HFq.out.set (Or.inl ⟨HBB.out.1, HBB.out.2.2⟩) _)⟩
          · rw [setK_get q (by omega)]
            by_cases e : k = i
            · rw [if_pos e]
              show (1 : Int) ≠ 3
              decide
            · rw [if_neg e]
              exact HK.out k (by omega)
          · rcases List.mem_or_eq_of_mem_set hx with h | rfl
            · exact HWq.out x h
            · have : nthS q i ∈ q := by
                unfold nthS
                rw [List.getD_eq_getElem?_getD, List.getElem?_eq_getElem (by omega)]
                exact List.getElem_mem _
              have h := HWq.out _ this
              exact h
        case measure => simp [intOf]; omega
      · go_wp2_with fail
        go_roundw
        case rel => exact ⟨i + 1, q, by omega, by go_num, hq, Lib.hid (fun k hk => by
          by_cases e : k = i
          · subst e
            rw [hkd]
            exact h3
          · exact HK.out k (by omega)), HWq, HSq, HFq⟩
        case measure => simp [intOf]; omega
    · obtain rfl : i = l1.length := by omega
      obtain ⟨k, hk⟩ : ∃ k : Nat, (k : Int) = min (max n 0) 30 := ⟨(min (max n 0) 30).toNat, by omega⟩
      have hk30 : k ≤ 30 := by omega
      have HKE := Lib.hid hk
      have HSQ := Lib.hid (show ∀ W', Fr (fun _ => False) wr W' → ScrsAt W' wr.heap.size (some ⟨g0, 0, none⟩) cs [q] from fun W' hf => by
        have hg0z : g0 < w2.heap.size := World.block_lt_of_cell? w2 _ cg0
        refine ⟨by simpa using hcs1, hcs2, by simp, fun _ => ⟨g0, 0, rfl, by omega⟩, fun i hi => ?_⟩
        obtain rfl : i = 0 := by simpa using hi
        refine ⟨g0, 0, A1, c1, vo1, rfl, by omega, ?_, ?_⟩
        · have := hf.cell cgr (fun h => h)
          rw [← hq] at this
          exact this
        · exact ((HSq.out.in_ (B' := fun b => b < wr.heap.size) (fun b hb => by omega) (fun b hb => by omega)).at_ (fun b hb => hb)).fr hf (fun _ h => h.elim))
      have HFW := Lib.hid (show Fr (fun k => W.heap.size ≤ k) W wr from by
        refine (HF2.out.weak (fun _ h => h.elim)).trans HFq.out (fun k hk => by omega))
      clear hk
      go_wp2_with fail
      have HU0 := Lib.hid (show FuelW (wr.alloc (.cells #[.slice none 0 0, .slice none 0 0] 66)) wr.heap.size (fuelL q f g k 0) (fun _ => .slice none 0 0) (wr.alloc (.cells #[.slice none 0 0, .slice none 0 0] 66)) from
        ⟨Fr.refl _ _, fun i hi => by
          have : i = 0 ∨ i = 1 := by omega
          rcases this with rfl | rfl <;> simp [go_sem], fun o => by simp [go_sem], fun i hi => by
          unfold fuelL
          rw [if_neg (Nat.not_lt_zero _)]
          exact OwnI.nil _ _, (fun i j hi hj hij k hk => by cases hk), by simp, by simp⟩)
      have hfw0 : Fr (fun k => W.heap.size ≤ k) W (wr.alloc (.cells #[.slice none 0 0, .slice none 0 0] 66)) := HFW.out.alloc _
      have hsq0 : ∀ W', Fr (fun k => wr.heap.size ≤ k) (wr.alloc (.cells #[.slice none 0 0, .slice none 0 0] 66)) W' → ScrsAt W' wr.heap.size (some ⟨g0, 0, none⟩) cs [q] := fun W' hf => (HSQ.out _ ((Fr.refl _ _).alloc _)).fr hf (fun k hk => hk)
      have hz0 : (wr.alloc (.cells #[.slice none 0 0, .slice none 0 0] 66)).heap.size = wr.heap.size + 1 := by simp
      have hwz : W.heap.size ≤ wr.heap.size := HFW.out.size
      generalize wr.alloc (.cells #[.slice none 0 0, .slice none 0 0] 66) = w0 at *
      generalize wr.heap.size = h at *
      have HFW0 := Lib.hid hfw0
      have HSQ0 := Lib.hid hsq0
      have HZ0 := Lib.hid hz0
      clear HSQ HFW HFq HSq hfw0 hsq0 hz0 cgr hzr HS2 cg0 hqb hi hlt HTW HF1 HF2
      go_loopw [8, 12, 13, 14, 16, 48] (fun _ _ _ _ _ v48 wx => ∃ (c : Nat) (v : Nat → Value), c ≤ 2 ∧ v48 = .int .i64 (c : Int) ∧ Hid (FuelW w0 h (fuelL q f g k c) v wx)) (fun _ _ _ _ _ v48 _ => 2 - (intOf v48).toNat)
      case atStart => exact ⟨0, _, by omega, rfl, HU0⟩
      case round =>
        obtain ⟨wo, hwo⟩ : ∃ wo : World, wo = wr := ⟨_, rfl⟩
        subst hwo
        obtain ⟨c, v, hc, rfl, HUc⟩ := hrel
        by_cases hlt : c < 2
        · have hix := index_two f g hlt
          have hfc : Fr (fun k => h ≤ k) w0 wo := HUc.out.fr.weak (fun k hk => by omega)
          have hzc : h < wo.heap.size := HUc.out.lt
          have hfd : Fr (fun k => h ≤ k) w0 (wo.alloc (.cells #[.int .i64 1, .int .i64 0, .int .i64 0, .int .i64 0] 69)) := hfc.alloc _
          have HBG := Lib.hid (begun_any (fun _ => False) h (some ⟨g0, 0, none⟩) cs [q] (fgF f g c) (.slice (some ⟨wo.heap.size, 0, none⟩) 1 1) [⟨1, 0, 0, 0⟩] (wo.alloc (.cells #[.int .i64 1, .int .i64 0, .int .i64 0, .int .i64 0] 69)) (fun _ h => h.elim) (by simp; omega) (HSQ0.out _ hfd) (fun x hx => by
            have : x = q := by simpa using hx
            rw [this]; exact HWq.out) ⟨some ⟨wo.heap.size, 0, none⟩, 1, rfl, Nat.le_refl _, by omega, fun _ => ⟨wo.heap.size, 0, rfl, by simp, fun i hi j u hu => by
              have hi' : i < 1 := hi
              obtain rfl : i = 0 := by omega
              have := cell_newL wo [.int .i64 1, .int .i64 0, .int .i64 0, .int .i64 0] 69 _ rfl j u hu
              rw [Addr.add_lit, Nat.zero_add] at this
              rw [Nat.zero_mul, Nat.zero_add]
              exact this⟩, fun k hk => by
              have hk' : k < 1 := hk
              obtain rfl : k = 0 := by omega
              exact ⟨wf0, wf0⟩⟩)
          have HUd := Lib.hid (HUc.out.new (S := fun _ => False) ((Fr.refl _ _).alloc (.cells #[.int .i64 1, .int .i64 0, .int .i64 0, .int .i64 0] 69)) (fun _ h => h.elim))
          clear hfc hfd
          obtain ⟨x, hx⟩ : ∃ x, fgF f g c = x := ⟨_, rfl⟩
          rw [hx] at HBG hix
          have HX := Lib.hid hx
          clear hx
          go_wp2_with fail
          refine HBG.out.mono ?_
          rintro e w3 ⟨p, P, X, M, rfl, hf3, -, hX, hM, hn3, hi3⟩
          have HF3 := Lib.hid hf3
          have HN3 := Lib.hid hn3
          have HM3 := Lib.hid hM
          clear hf3 hX hM hn3 hi3 HBG
          go_upto_block 4 with (fail)
          rw [← HKE.out]
          go_wp2_with fail
          go_loopw [62] (fun v62 wy => ∃ (j : Nat) (Pj : Int → Nat) (Xj Mj : Nat → Prop), j ≤ k ∧ v62 = .int .i64 (j : Int) ∧ Hid (Gr X M w3 Xj Mj wy) ∧ Hid (NodeAt wy Xj Mj h (10000000000 + 60000000 * j) p Pj (iterT j (begunN [q] x [⟨1, 0, 0, 0⟩])))) (fun v62 _ => k - (intOf v62).toNat)
          case atStart => exact ⟨0, P, X, M, Nat.zero_le _, rfl, Lib.hid (Gr.refl _ _ _), HN3⟩
          case round =>
            obtain ⟨w4, hw4⟩ : ∃ w4 : World, w4 = wr := ⟨_, rfl⟩
            subst hw4
            obtain ⟨j, Pj, Xj, Mj, hj, rfl, HGj, HNj⟩ := hrel
            by_cases hlt2 : j < k
            · have HTc := Lib.hid (turn_any HNj.out (by omega))
              go_wp2_with fail
              refine HTc.out.mono ?_
              rintro e w9 ⟨rfl, P9, X9, M9, hg9, hn9⟩
              have HG9 := Lib.hid (HGj.out.trans hg9)
              have HN9 := Lib.hid (show NodeAt w9 X9 M9 h (10000000000 + 60000000 * (j + 1)) p P9 (iterT (j + 1) (begunN [q] x [⟨1, 0, 0, 0⟩])) from NodeAt.up hn9 (by omega))
              clear hg9 hn9 HTc
              go_wp2_with fail
              go_roundw
              case rel => exact ⟨j + 1, P9, X9, M9, by omega, by go_num, HG9, HN9⟩
              case measure => simp [intOf]; omega
            · obtain rfl : j = k := by omega
              have HU4 := Lib.hid (HUd.out.new (S := fun k => (wo.alloc (.cells #[.int .i64 1, .int .i64 0, .int .i64 0, .int .i64 0] 69)).heap.size ≤ k) ((HF3.out.weak (fun _ h => h.elim)).trans' (HGj.out.fr.weak (fun k hk => HM3.out k hk))) (fun k hk => hk))
              have HSD := Lib.hid (said_any HNj.out (by omega))
              have hlen := numsL_len q x hk30
              obtain ⟨sd, hsd⟩ : ∃ sd, (iterT j (begunN [q] x [⟨1, 0, 0, 0⟩])).said = sd := ⟨_, rfl⟩
              have hnum : numsL q x j = sd.map (·.2) := by unfold numsL; rw [hsd]
              rw [hsd] at HSD
              rw [hnum, List.length_map] at hlen
              have HNU := Lib.hid hnum
              have hz4 := HU4.out.lt
              clear hnum hsd HUd HNj HGj HF3 HN3 HM3
              go_wp2_with fail
              refine HSD.out.mono ?_
              rintro e w5 ⟨A5, c5, rfl, hs5, hb5⟩
              have HS5 := Lib.hid hs5
              have hz5 := hb5.size
              have HU5 := Lib.hid (HU4.out.new (S := fun _ => False) (Fr.of_below hb5) (fun _ h => h.elim))
              clear hs5 hb5 HSD
              go_wp2_with fail
              go_loopw [16, 70] (fun _ v70 wy => ∃ (i : Nat) (v' : Nat → Value), i ≤ sd.length ∧ v70 = .int .i64 (i : Int) ∧ Hid (FuelW w0 h (fun a => if a = c then (sd.map (·.2)).take i else fuelL q f g j c a) v' wy) ∧ Hid (Fr (fun a => a < w4.heap.size) w5 wy) ∧ Hid (∀ a, (v' c).ownBlock = some a → a < w4.heap.size ∨ w5.heap.size ≤ a)) (fun _ v70 _ => sd.length - (intOf v70).toNat)
              case atStart => exact ⟨0, v, Nat.zero_le _, rfl, Lib.hid (HU5.out.congr fun i hi => by
                by_cases e : i = c
                · subst e
                  rw [if_pos rfl]
                  unfold fuelL
                  rw [if_neg (by omega)]
                  rfl
                · rw [if_neg e]), Lib.hid (Fr.refl _ _), Lib.hid (fun a ha => .inl (((HU4.out.row c hlt).blk a ha).2))⟩
              case round =>
                obtain ⟨i, v', hi, rfl, HUi, HFi, HBi⟩ := hrel
                by_cases hlt3 : i < sd.length
                · obtain ⟨b, cp, hvb, hb0, hb1, hbc⟩ := own_form HS5.out (by omega)
                  injection hvb with e1 e2 e3
                  subst e1 e3
                  have y0 : wr.cell? ⟨b, i * 2, none⟩ = some (.int .i64 (sd.getD i (0, 0)).1) := HFi.out.cell (by
                    have := own_cellC HS5.out (saidC_len sd) hlt3 (j := 0) (by omega)
                    simpa [saidC] using this) (by omega)
                  have y1 : wr.cell? ⟨b, i * 2 + 1, none⟩ = some (.int .i64 (sd.getD i (0, 0)).2) := HFi.out.cell (by
                    have := own_cellC HS5.out (saidC_len sd) hlt3 (j := 1) (by omega)
                    simpa [saidC] using this) (by omega)
                  obtain ⟨num, hnm⟩ : ∃ z, (sd.getD i (0, 0)).2 = z := ⟨_, rfl⟩
                  obtain ⟨who, hwh⟩ : ∃ z, (sd.getD i (0, 0)).1 = z := ⟨_, rfl⟩
                  have htk := take_more sd hlt3
                  rw [hnm] at y1 htk
                  rw [hwh] at y0
                  have HTK := Lib.hid htk
                  have i1 : (0 : Int) ≤ (i : Int) := by omega
                  have i2 : (i : Int) < (sd.length : Int) := by omega
                  have hrow : OwnI wr (h + 1) (v' c) ((sd.map (·.2)).take i) := by
                    have := HUi.out.row c hlt
                    simpa using this
                  have hti : ((sd.map (·.2)).take i).length = i := by rw [List.length_take, List.length_map]; omega
                  obtain ⟨T, hT⟩ : ∃ T, (sd.map (·.2)).take i = T := ⟨_, rfl⟩
                  rw [hT] at hrow hti
                  have HT := Lib.hid hT
                  have HTI := Lib.hid hti
                  obtain ⟨Ac, cc, hvc, hk1, hk2, hk3⟩ := own_any hrow
                  rw [hti] at hvc hk1
                  have HVC := Lib.hid hvc
                  obtain ⟨W6, hW6⟩ : ∃ W6, W6 = wr.alloc (.cells #[.int .i64 who, .int .i64 num] 63) := ⟨_, rfl⟩
                  have hf6 : Fr (fun _ => False) wr W6 := by rw [hW6]; exact (Fr.refl _ _).alloc _
                  have HU6 := Lib.hid (HUi.out.new hf6 (fun _ h => h.elim))
                  have cH := HU6.out.cell c hlt
                  rw [hvc] at cH
                  have fH := HU6.out.fz
                  have cX : W6.cell? ⟨wr.heap.size, 1, none⟩ = some (.int .i64 num) := by rw [hW6]; simp [go_sem]
                  have hz6 : wr.heap.size < W6.heap.size := by rw [hW6]; simp
                  have hh6 := HU6.out.lt
                  have HR6 := Lib.hid (hf6.row hrow (fun _ _ h => h))
                  rw [hvc, hti] at HR6
                  have c1i : (0 : Int) ≤ (c : Int) := by omega
                  have c2i : (c : Int) < 2 := by omega
                  have hneh : h ≠ wr.heap.size := by have := HUi.out.lt; omega
                  have HW6 := Lib.hid hW6
                  have HF6 := Lib.hid hf6
                  obtain ⟨i0, hi0, jz0, jz1, jz2⟩ := info_parts infoI
                  clear hW6 hf6 hrow hvc hT hti htk hnm hwh hk3 hbc hb0 hb1
                  go_wp2_with fail
                  rw [← HW6.out]
                  go_region_law (refine step_append_lies _ (by rfl) _ _ _ (by rfl) (h + 1) 3 i0 (.int .i64 0) 1 8 Tryz.underlying26 hi0 jz0 jz1 jz2 rfl (by decide) (.slice Ac i cc) i (encI T) (by rfl) (HR6.out.alloc _) ⟨W6.heap.size, 0, none⟩ 1 1 [.int .i64 num] (by rfl) (by rfl) (cell_newL _ _ _ _ rfl) (fun u hu => (by simp at hu; subst hu; rfl)) (by omega) (by unfold maxLen; omega) (by omega) (by simp; omega) (W6.heap.size + 1) (by simp) ?_; intro g7 cap7 w7 hown7 hgrow7 hat7 hlt7; have hneb : some h ≠ (Value.slice Ac i cc).ownBlock := (fun e => by have := (HR6.out.lt h e.symm).1; omega); have x9 := (grown_cell (b := h) (o := c) hgrow7 (by simp; omega) hneb).trans ((World.cell?_alloc_lt _ _ ⟨h, c, none⟩ hh6).trans cH); have xf := (grown_frozen (b := h) (o := c) hgrow7 (by simp; omega) hneb).trans ((grown_frozen (b := h) (o := c) (World.grownBy_alloc W6 _ none) hh6 (by simp)).trans (fH c)); have HG7 := Lib.hid hgrow7; have HO7 := Lib.hid hown7; have HA7 := Lib.hid hat7; clear hown7 hgrow7 hat7)
                  all_goals
                    try simp only [Act.put, List.getElem_toArray, List.getElem_cons_zero, List.getElem_cons_succ, List.setIfInBounds_toArray, List.set_cons_zero, List.set_cons_succ]
                    have hbi : ∀ a, (Value.slice Ac i cc).ownBlock = some a → a < w4.heap.size ∨ w5.heap.size ≤ a := fun a ha => HBi.out a (by rw [HVC.out]; exact ha)
                    have hz56 : w5.heap.size ≤ W6.heap.size := Nat.le_trans HFi.out.size (Nat.le_of_lt hz6)
                    have hpush := (HU6.out.new (S := fun _ => False) ((Fr.refl _ W6).alloc (.cells #[.int .i64 num] 3)).drew (fun _ h => h.elim)).push hlt (v' := .slice (some ⟨g7, 0, none⟩) (i + 1) cap7) (x := num) (by rw [HVC.out]; exact HG7.out) (by
                      rw [if_pos rfl, HT.out]
                      unfold OwnI encI
                      rw [List.length_append, List.map_append, HTI.out]
                      exact HO7.out) (fun a ha => by
                      injection ha with ha
                      subst ha
                      rcases HA7.out with h | h
                      · exact .inl (by rw [HVC.out]; exact h)
                      · refine .inr ?_
                        show (W6.alloc _).heap.size ≤ _
                        simp
                        omega)
                    have HPU := Lib.hid (hpush.congr (L' := fun a => if a = c then (sd.map (·.2)).take (i + 1) else fuelL q f g j c a) (fun a _ => by
                      by_cases e : a = c
                      · subst e
                        rw [if_pos rfl, if_pos rfl, if_pos rfl]
                        exact HTK.out
                      · rw [if_neg e, if_neg e, if_neg e]))
                    have HFF := Lib.hid (show Fr (fun a => a < w4.heap.size) w5 (w7.setCell ⟨h, c, none⟩ (.slice (some ⟨g7, 0, none⟩) (i + 1) cap7)) from by
                      have k1 : Fr (fun a => a < w4.heap.size ∨ w5.heap.size ≤ a) wr (W6.alloc (.cells #[.int .i64 num] 3)).drew := ((HF6.out.weak (fun _ h => h.elim)).alloc _).drew
                      have k2 : Fr (fun a => a < w4.heap.size ∨ w5.heap.size ≤ a) wr w7 := k1.trans' (Fr.of_grown HG7.out (fun b hb => .inl (hbi b hb)))
                      exact HFi.out.trans (k2.set (Or.inl (Or.inl hz4)) _) (fun _ h => h))
                    have HBB := Lib.hid (show ∀ a, (if c = c then Value.slice (some ⟨g7, 0, none⟩) (i + 1) cap7 else v' c).ownBlock = some a → a < w4.heap.size ∨ w5.heap.size ≤ a from fun a ha => by
                      rw [if_pos rfl] at ha
                      injection ha with ha
                      subst ha
                      rcases HA7.out with h | h
                      · exact hbi _ h
                      · exact .inr (show w5.heap.size ≤ g7 by omega))
                    clear hpush hbi
                    go_wp2_with fail
                    go_roundw
                    case rel => exact ⟨i + 1, _, by omega, by go_num, HPU, HFF, HBB⟩
                    case measure => simp [intOf]; omega
                · obtain rfl : i = sd.length := by omega
                  go_wp2_with fail
                  go_roundw
                  case rel => exact ⟨c + 1, v', by omega, by go_num, Lib.hid (HUi.out.congr fun i hi => by
                    unfold fuelL
                    by_cases e : i = c
                    · subst e
                      rw [if_pos rfl, if_pos (by omega), HX.out, HNU.out, ← List.length_map (f := fun a : Int × Int => a.2), List.take_length]
                    · rw [if_neg e]
                      by_cases e2 : i < c
                      · rw [if_pos e2, if_pos (by omega)]
                      · rw [if_neg e2, if_neg (by omega)])⟩
                  case measure => simp [intOf]; omega
        · have h2 : c = 2 := by omega
          have hl0 : fuelL q f g k c 0 = numsL q f k := by
            unfold fuelL
            rw [if_pos (by omega)]
            rfl
          have hl1 : fuelL q f g k c 1 = numsL q g k := by
            unfold fuelL
            rw [if_pos (by omega)]
            rfl
          have r0 := HUc.out.row 0 (by omega)
          have r1 := HUc.out.row 1 (by omega)
          rw [hl0] at r0
          rw [hl1] at r1
          obtain ⟨Aa, ca, hva, ka1, ka2, ka3⟩ := own_any r0
          obtain ⟨Ab, cb, hvb, kb1, kb2, kb3⟩ := own_any r1
          have c0 := HUc.out.cell 0 (by omega)
          have c1' := HUc.out.cell 1 (by omega)
          rw [hva] at c0 r0
          rw [hvb] at c1' r1
          have R0 := Lib.hid r0.rd
          have R1 := Lib.hid r1.rd
          have n0 := numsL_len q f hk30
          have n1 := numsL_len q g hk30
          have HSM := Lib.hid (fun i (h1 : i < (numsL q f k).length) (h2 : i < (numsL q g k).length) => nums_same (q := q) (fun a ha => HK.out a (by omega)) f g k h1 h2)
          have HEND := Lib.hid (show Below W.heap.size W wo from (HFW0.out.trans (HUc.out.fr.weak (S2 := fun a => W.heap.size ≤ a) (fun a ha => by omega)) (fun a ha => .inl ha)).below (fun a ha => ha) (Nat.le_refl _))
          have hh := HUc.out.lt
          generalize numsL q f k = L0 at *
          generalize numsL q g k = L1 at *
          clear hva hvb hl0 hl1 r0 r1 h2 HUc HSQ0 HFW0 HZ0 HWq HK
          obtain ⟨m, hm⟩ : ∃ m : Nat, (m : Int) = min (L0.length : Int) (L1.length : Int) := ⟨min L0.length L1.length, by omega⟩
          have hm0 : m ≤ L0.length := by omega
          have hm1 : m ≤ L1.length := by omega
          have HM := Lib.hid hm
          have j1 : (0 : Int) ≤ (m : Int) := by omega
          have j2 : (m : Int) ≤ (ca : Int) := by omega
          have j3 : (m : Int) ≤ (cb : Int) := by omega
          have HEQ := Lib.hid (fun W9 (hf : Fr (fun _ => False) wo W9) => equalI_same Aa Ab m m ca cb (lst L0) (lst L1) W9 rfl (by omega) ((R0.out.below (hf.below (fun _ h => h.elim) (Nat.le_refl _))).take hm0) ((R1.out.below (hf.below (fun _ h => h.elim) (Nat.le_refl _))).take hm1) (fun i hi => HSM.out i (by omega) (by omega)))
          clear hm
          go_wp2_with fail
          rw [← HM.out]
          go_region_held3 (fun W => W.cell? ⟨h, 0, none⟩ = some (.slice Aa L0.length ca) ∧ W.cell? ⟨h, 1, none⟩ = some (.slice Ab L1.length cb))
            (first | with_reducible exact ⟨c0, c1'⟩ | with_reducible exact ⟨e0, e1⟩ | go_keep)
            (first
            | (go_at_call 30; refine (HEQ.out _ (by (repeat' first | with_reducible exact Fr.refl _ _ | (with_reducible refine Fr.setEq ?_ _) | (with_reducible refine Fr.setNew ?_ _) | with_reducible refine Fr.alloc ?_ _ | with_reducible refine Fr.drewN ?_ _ | with_reducible refine Fr.drew ?_))).mono ?_; rintro e w9 ⟨rfl, hb9⟩; have e0 := (hb9.cell (p := ⟨h, 0, none⟩) hh).trans c0; have e1 := (hb9.cell (p := ⟨h, 1, none⟩) hh).trans c1'; have HB9 := Lib.hid hb9; clear hb9))
          go_wp2_with fail
          refine bodyPost_ret (v := .bool true) (by simp [results, Tryz.results8, go_sem]) rfl ⟨rfl, ?_⟩
          exact HEND.out.trans (Below.mono (below_drew' HB9.out) HEND.out.size)
end Go.Proofs.YtjjfglbcikaicaaGreat
