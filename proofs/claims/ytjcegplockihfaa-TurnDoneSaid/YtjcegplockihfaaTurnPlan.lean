/- Contract of turn.Plan. -/
import Derived.Test.YtjcegplockihfaaTurn
namespace Go.Proofs.Ytjcegplockihfaa
open Go.RowKit
set_option linter.unusedVariables false
def encJ (l : List Jb) : List Value := l.flatMap fun j => [.int .i64 j.id, .int .i64 j.st]
theorem encJ_len (l : List Jb) : (encJ l).length = l.length * 2 := by
  induction l with
  | nil => rfl
  | cons j l ih => unfold encJ at ih ⊢; rw [List.flatMap_cons, List.length_append, ih]; simp; omega
theorem encJ_cons (j : Jb) (l : List Jb) : encJ (j :: l) = .int .i64 j.id :: .int .i64 j.st :: encJ l := rfl
theorem encJ_snoc (l : List Jb) (j : Jb) : encJ (l ++ [j]) = encJ l ++ [.int .i64 j.id, .int .i64 j.st] := by simp [encJ]
theorem encJ_one (l : List Jb) : ∀ u ∈ encJ l, u.oneCell' = true := by
  intro u hu
  unfold encJ at hu
  rw [List.mem_flatMap] at hu
  obtain ⟨j, _, h⟩ := hu
  simp at h
  rcases h with rfl | rfl <;> rfl
def jobsL (R : Nat → Jb) (n : Nat) : List Jb := (List.range n).map R
theorem jobsL_succ (R : Nat → Jb) (n : Nat) : jobsL R (n + 1) = jobsL R n ++ [R n] := by simp [jobsL, List.range_succ]
theorem jobsL_len (R : Nat → Jb) (n : Nat) : (jobsL R n).length = n := by simp [jobsL]
theorem flatC_jobs (R : Nat → Jb) (n : Nat) : flatC (jbC R) n = encJ (jobsL R n) := by
  induction n with
  | zero => rfl
  | succ n ih => rw [flatC, ih, jobsL_succ, encJ_snoc]; rfl
theorem mem_jobsL {R : Nat → Jb} {n : Nat} {j : Jb} : j ∈ jobsL R n ↔ ∃ k, k < n ∧ R k = j := by simp [jobsL]
theorem jobsL_get (R : Nat → Jb) {n k : Nat} (h : k < n) : (jobsL R n)[k]? = some (R k) := by simp [jobsL, h]
theorem OkJ.nodup {R : Nat → Jb} {n : Nat} {f : Int} (h : OkJ R n f) : (idsJ (jobsL R n)).Nodup := by
  unfold idsJ jobsL
  rw [List.map_map, List.nodup_iff_pairwise_ne, List.pairwise_map]
  refine List.Pairwise.imp_of_mem ?_ List.pairwise_lt_range
  intro a b ha hb hab
  rw [List.mem_range] at ha hb
  exact (h.2.2.2 b hb).2.2 a hab
theorem OkJ.start {R : Nat → Jb} {n : Nat} {f : Int} (h : OkJ R n f) : PI (jobsL R n) f (jobsL R n) 0 [] := by
  refine PI.start h.2.1 fun j hj => ?_
  obtain ⟨k, hk, rfl⟩ := mem_jobsL.1 hj
  exact ⟨(h.2.2.2 k hk).1, (h.2.2.2 k hk).2.1⟩
theorem infoJ : (Try.prog.info? 47).map (fun i => (i.zero, i.size, i.bytes)) = some (some (.agg #[.int .i64 0, .int .i64 0]), 2, 16) := by kernel_rfl
theorem cell_two_at (w : World) (a b : Value) (t : TypeId) (H : Nat) (hH : w.heap.size = H) : ∀ j u, [a, b][j]? = some u → (w.alloc (.cells #[a, b] t)).cell? ((⟨H, 0, none⟩ : Addr).add j) = some u := by
  subst hH
  intro j u hj
  match j, hj with
  | 0, hj => simp at hj; subst hj; simp [Addr.add]
  | 1, hj => simp at hj; subst hj; simp [Addr.add]
theorem two_one (a b : Int) : ∀ u ∈ ([.int .i64 a, .int .i64 b] : List Value), u.oneCell' = true := by
  intro u hu
  simp at hu
  rcases hu with rfl | rfl <;> rfl
def PlanPost (l : List Jb) (f : Int) (w : World) (e : Ending) (w' : World) : Prop :=
  ∃ (v : Value) (out : List Jb) (tot : Int), e = .returned (.tuple #[v, .int .i64 0]) ∧ w'.ownsRow w.heap.size 47 2 v out.length (encJ out) ∧ PI l f [] tot out ∧ Below w.heap.size w w'
def PlanErr (w : World) (e : Ending) (w' : World) : Prop := ∃ x : Int, x ≠ 0 ∧ e = .returned (.tuple #[.slice none 0 0, .int .i64 x]) ∧ Below w.heap.size w w'
set_option maxHeartbeats 400000 in
theorem plan_bad (A : Option Addr) (n c : Nat) (R : Nat → Jb) (f : Int) (w : World) (hn : n ≤ c) (hc : c ≤ 9223372036854775807) (hR : Rd w 2 (jbC R) A n) (ok : ¬ OkJ R n f) :
    Calls Try.prog 25 #[.slice A n c, .int .i64 f] w (PlanErr w) := by
  have H := Lib.hid (checkJobs_any A n c R f w hn hc hR)
  have HK := Lib.hid ok
  clear hR ok
  go_enter Try.func25, Try.ntmps25
  go_wp2_with fail
  refine H.out.mono ?_
  rintro e w1 ⟨x, rfl, hx, hb⟩
  have hx' : x ≠ 0 := fun h => HK.out (hx.1 h)
  have hx0 : (x != 0) = true := by simpa using hx'
  clear hx
  go_wp2_with fail
  go_ret2
  exact ⟨x, hx', rfl, hb⟩
set_option maxRecDepth 100000 in
set_option maxHeartbeats 2000000 in
theorem plan_ok (A : Option Addr) (n c : Nat) (R : Nat → Jb) (f : Int) (w : World) (hn : n ≤ c) (hc : c ≤ 9223372036854775807) (hA : A = none → n = 0) (hR : Rd w 2 (jbC R) A n) (ok : OkJ R n f) :
    Calls Try.prog 25 #[.slice A n c, .int .i64 f] w (PlanPost (jobsL R n) f w) := by
  obtain ⟨i0, hi, hz0, hz1, hz2⟩ := info_parts infoJ
  have H := Lib.hid (checkJobs_any A n c R f w hn hc hR)
  have HK := Lib.hid ok
  have HR := Lib.hid hR
  have HA := Lib.hid hA
  have hn100 := ok.1
  have hf1 := ok.2.1
  have hf2 := ok.2.2.1
  have HND := Lib.hid ok.nodup
  have HST := Lib.hid ok.start
  have HSUM := Lib.hid (sumSt_nonneg ok.start.fine)
  clear hR ok hA
  go_enter Try.func25, Try.ntmps25
  go_wp2_with fail
  refine H.out.mono ?_
  rintro e w1 ⟨x, rfl, hx, hb⟩
  obtain rfl : x = 0 := hx.2 HK.out
  have HB1 := Lib.hid hb
  clear hx hb
  go_wp2_with fail
  refine (cloneJb A n c (jbC R) _ (HR.out.below HB1.out) (jbC_len R) (jbC_one R) HA.out (by omega)).mono ?_
  rintro e w2 ⟨v2, rfl, hown, hb2⟩
  rw [flatC_jobs] at hown
  have HQ := Lib.hid (QR.of_own (own_mono hown HB1.out.size))
  have HLT := Lib.hid (fun k hk => (hown.lt k hk).2)
  have HB2 := Lib.hid (HB1.out.trans (hb2.mono HB1.out.size))
  obtain ⟨A2, c2, rfl, hnc2, hcm2, _⟩ := own_any hown
  clear hown hb2
  go_wp2_with fail
  go_loopw [7, 8, 9, 10, 11] (fun o t s _ _ wr => ∃ (q out : List Jb) (tot : Int) (vo vq : Value), vo = o ∧ t = .int .i64 tot ∧ vq = s ∧ PI (jobsL R n) f q tot out ∧ QR wr w.heap.size 47 2 vq q.length (encJ q) ∧ wr.ownsRow w.heap.size 47 2 vo out.length (encJ out) ∧ (∀ k, vq.ownBlock = some k → k < wr.heap.size ∧ vo.ownBlock ≠ some k) ∧ Below w.heap.size w wr)
    (fun _ t _ _ _ _ => (sumSt (jobsL R n) - intOf t).toNat)
  case atStart =>
    refine ⟨jobsL R n, [], 0, .slice none 0 0, _, rfl, rfl, rfl, HST.out, ?_, World.ownsRow_nil _ _ _ _, fun k hk => ⟨?_, by simp [Value.ownBlock]⟩, HB2.out⟩
    · rw [jobsL_len]; exact HQ.out
    · exact HLT.out k hk
  case round =>
    obtain ⟨q, out, tot, vo, vq, rfl, rfl, rfl, hPI, hq, hout, hblk, hB⟩ := hrel
    have HPI := Lib.hid hPI
    have HO := Lib.hid hout
    have HQ3 := Lib.hid hq
    have HBK := Lib.hid hblk
    have hlen := hPI.len
    rw [jobsL_len] at hlen
    have hsum := hPI.sum
    have htot := hPI.tot0
    have hsn := sumSt_nonneg hPI.fine
    obtain ⟨hs1, hs2⟩ := HSUM.out
    rw [jobsL_len] at hs1 hs2
    obtain ⟨Ao, co, rfl, hnco, hcmo, _⟩ := own_any hout
    obtain ⟨Aq, cq, rfl, hncq, hcmq⟩ := hq.form
    have hBs := hB.size
    cases q with
    | nil =>
      clear hPI hq hout hblk
      have hl0 : ¬ (0 < ([] : List Jb).length) := by simp
      go_wp2_with fail
      go_ret2
      exact ⟨_, out, tot, rfl, HO.out, HPI.out, hB⟩
    | cons j q =>
      have hj := hPI.fine j (by simp)
      obtain ⟨b, off, rfl, hbb, hblt, hcell, hfr, hsp⟩ := hq.blk (by simp only [List.length_cons] at hncq; omega)
      have c0 : wr.cell? ⟨b, off, none⟩ = some (.int .i64 j.id) := by simpa using hcell 0 _ rfl
      have c1 : wr.cell? ⟨b, off + 1, none⟩ = some (.int .i64 j.st) := hcell 1 _ rfl
      have HT1 := Lib.hid (fun A' (hA' : A' = if cq = 1 then some ⟨b, off, none⟩ else some ⟨b, off + 2, none⟩) => hq.tail (n := q.length) A' hA')
      have hqo := (HBK.out b rfl).2
      have HQO := Lib.hid hqo
      have HB := Lib.hid hB
      simp only [List.length_cons] at hlen hncq ⊢
      clear hPI hq hout hblk hcell hfr hsp hqo hB
      obtain ⟨id, st⟩ := j
      dsimp only at c0 c1 hj
      have hsm : ¬ ((sumSt (jobsL R n)) ≤ tot) := by simp only [sumSt] at hsum; have := sumSt_nonneg (q := q) (fun x hx => HPI.out.fine x (by simp [hx])); omega
      have htb : tot ≤ 1000000 := by omega
      have hq1 : ((cq : Int) == 1) = decide (cq = 1) := by rw [Bool.eq_iff_iff]; simp; omega
      clear hq1
      by_cases hcq : cq = 1
      · obtain rfl : cq = 1 := hcq
        have hq0 : q.length = 0 := by omega
        have hqnil := List.eq_nil_of_length_eq_zero hq0
        subst hqnil
        have HT2 := Lib.hid (HT1.out _ rfl)
        simp only [if_true] at HT2
        dsimp only [List.length_nil] at HT2 hlen hncq ⊢
        clear hq0
        by_cases hgt : f < st
        · have hmin : min st f = f := by omega
          have hlt0 : ¬ (st ≤ f) := by omega
          have hpos : (0 : Int) < st - f := by omega
          have HPC := Lib.hid (PI.cont hf1 HPI.out hgt)
          have HT3 := Lib.hid (((HT2.out.below ((Below.refl _ _).alloc (Nat.le_refl _) (.cells #[.int .i64 id, .int .i64 (st - f)] 47))).below ((Below.refl _ _).alloc (Nat.le_refl _) (.cells #[.int .i64 id, .int .i64 (st - f)] 47))))
          have hmn : (min st f) = f := hmin
          clear hmin
          go_wp2_with (at_builtin; go_loud (refine wpList_append_q rfl _ _ 42 rfl w.heap.size 47 i0 _ 2 16 Try.underlying42 hi hz0 hz1 hz2 rfl (by omega) (.slice (some ⟨b, off, none⟩) 0 0) 0 _ rfl HT3.out (wr.heap.size + 1) [.int .i64 id, .int .i64 (st - f)] rfl rfl (cell_two_at _ _ _ _ _ (by simp)) (two_one _ _) (by unfold maxLen; omega) (by omega) (by simp; omega) ?_; intro v5 w5 hq5 hg5 hat5; have HQ5 := Lib.hid hq5; have HG5 := Lib.hid hg5; have HA5 := Lib.hid hat5; clear hq5 hg5 hat5))
          have g5 : wr.grownBy w5 (some b) := grown_step (World.grownBy_alloc wr _ _) (grown_step (World.grownBy_alloc _ _ _) HG5.out (.inl rfl)) (.inl rfl)
          have hqf : QR w5 w.heap.size 47 2 v5 ([] ++ [(⟨id, st - f⟩ : Jb)]).length (encJ ([] ++ [⟨id, st - f⟩])) := by
            rw [List.length_append, encJ_snoc]
            exact HQ5.out
          refine ⟨⟨[] ++ [⟨id, st - f⟩], out, tot + f, _, v5, rfl, rfl, rfl, HPC.out, hqf, ?_, fun k hk => ⟨?_, ?_⟩, ?_⟩, by simp [intOf]; omega⟩
          · exact own_grown HO.out g5 (fun k hk e => HQO.out (by rw [hk, ← e]))
          · obtain ⟨A5, c5, hv5, hn5, _⟩ := hqf.form
            have hc5 : 0 < c5 := by rw [List.length_append] at hn5; simp at hn5; omega
            have hq5' := hqf
            rw [hv5] at hq5' hk
            obtain ⟨b5, off5, rfl, _, h5, _⟩ := hq5'.blk hc5
            have : b5 = k := Option.some.inj hk
            omega
          · rcases HA5.out with h | ⟨g, h, hge⟩
            · have hb' : some k = some b := hk.symm.trans h
              rw [hb']
              exact HQO.out
            · have hb' : some k = some g := hk.symm.trans h
              injection hb' with hb'
              intro e
              have := (HO.out.lt k e).2
              simp at hge
              omega
          · exact below_grown HB.out hBs g5 (fun k hk => by injection hk with hk; omega)
        · have hmin : min st f = st := by omega
          have hle : st ≤ f := by omega
          have HPD := Lib.hid (PI.done hf1 HND.out HPI.out hle)
          have hnp : ¬ ((0 : Int) < st - st) := by omega
          go_wp2_with (at_builtin; go_loud (refine wpList_append_own_at _ rfl _ _ 42 rfl w.heap.size 47 i0 _ 2 16 Try.underlying42 hi hz0 hz1 hz2 rfl (by omega) (.slice Ao out.length co) out.length (encJ out) rfl ((HO.out.alloc _).alloc _) ⟨wr.heap.size + 1, 0, none⟩ 1 1 [.int .i64 id, .int .i64 (tot + st)] rfl rfl (cell_two_at _ _ _ _ _ (by simp)) (two_one _ _) (by unfold maxLen; omega) (by omega) (by simp; omega) ?_; intro v5 w5 hq5 hg5 _ hat5; have HQ5 := Lib.hid hq5; have HG5 := Lib.hid hg5; have HA5 := Lib.hid hat5; clear hq5 hg5 hat5))
          have g5 : wr.grownBy w5 (Value.slice Ao out.length co).ownBlock := grown_step (World.grownBy_alloc wr _ _) (grown_step (World.grownBy_alloc _ _ _) HG5.out (.inl rfl)) (.inl rfl)
          have hbo : ∀ k, (Value.slice Ao out.length co).ownBlock = some k → w.heap.size ≤ k := fun k hk => (HO.out.lt k hk).1
          have hzz := g5.size
          refine ⟨⟨[], out ++ [⟨id, tot + st⟩], tot + st, v5, _, rfl, rfl, rfl, HPD.out, ?_, ?_, fun k hk => ⟨?_, ?_⟩, ?_⟩, by simp [intOf]; omega⟩
          · exact HT2.out.grown g5 (fun k hk e => by have hk' : b = k := Option.some.inj hk; subst hk'; exact HQO.out e)
          · rw [List.length_append, encJ_snoc]; exact HQ5.out
          · have hk' : b = k := Option.some.inj hk; omega
          · have hk' : b = k := Option.some.inj hk
            subst hk'
            rcases HA5.out with h | h
            · rw [h]; exact HQO.out
            · rw [h]; intro e; injection e with e; simp at e; omega
          · exact below_grown HB.out hBs g5 hbo
      · have HT2 := Lib.hid (HT1.out (some ⟨b, off + 2, none⟩) (by rw [if_neg hcq]))
        have l1 : (1 : Int) ≤ (q.length : Int) + 1 := by omega
        have l2 : (1 : Int) ≤ (cq : Int) := by omega
        have l3 : ¬ ((cq : Int) = 1) := by omega
        by_cases hgt : f < st
        · have hmin : min st f = f := by omega
          have hlt0 : ¬ (st ≤ f) := by omega
          have hpos : (0 : Int) < st - f := by omega
          have HPC := Lib.hid (PI.cont hf1 HPI.out hgt)
          have HT3 := Lib.hid (((HT2.out.below ((Below.refl _ _).alloc (Nat.le_refl _) (.cells #[.int .i64 id, .int .i64 (st - f)] 47))).below ((Below.refl _ _).alloc (Nat.le_refl _) (.cells #[.int .i64 id, .int .i64 (st - f)] 47))))
          have hmn : (min st f) = f := hmin
          clear hmin
          go_wp2_with (at_builtin; go_loud (refine wpList_append_q rfl _ _ 42 rfl w.heap.size 47 i0 _ 2 16 Try.underlying42 hi hz0 hz1 hz2 rfl (by omega) (.slice (some ⟨b, off + 2, none⟩) q.length (cq - 1)) q.length _ rfl HT3.out (wr.heap.size + 1) [.int .i64 id, .int .i64 (st - f)] rfl rfl (cell_two_at _ _ _ _ _ (by simp)) (two_one _ _) (by unfold maxLen; omega) (by omega) (by simp; omega) ?_; intro v5 w5 hq5 hg5 hat5; have HQ5 := Lib.hid hq5; have HG5 := Lib.hid hg5; have HA5 := Lib.hid hat5; clear hq5 hg5 hat5))
          have g5 : wr.grownBy w5 (some b) := grown_step (World.grownBy_alloc wr _ _) (grown_step (World.grownBy_alloc _ _ _) HG5.out (.inl rfl)) (.inl rfl)
          have hqf : QR w5 w.heap.size 47 2 v5 (q ++ [(⟨id, st - f⟩ : Jb)]).length (encJ (q ++ [⟨id, st - f⟩])) := by
            rw [List.length_append, encJ_snoc]
            exact HQ5.out
          refine ⟨⟨q ++ [⟨id, st - f⟩], out, tot + f, _, v5, rfl, rfl, rfl, HPC.out, hqf, ?_, fun k hk => ⟨?_, ?_⟩, ?_⟩, by simp [intOf]; omega⟩
          · exact own_grown HO.out g5 (fun k hk e => HQO.out (by rw [hk, ← e]))
          · obtain ⟨A5, c5, hv5, hn5, _⟩ := hqf.form
            have hc5 : 0 < c5 := by rw [List.length_append] at hn5; simp at hn5; omega
            have hq5' := hqf
            rw [hv5] at hq5' hk
            obtain ⟨b5, off5, rfl, _, h5, _⟩ := hq5'.blk hc5
            have : b5 = k := Option.some.inj hk
            omega
          · rcases HA5.out with h | ⟨g, h, hge⟩
            · have hb' : some k = some b := hk.symm.trans h
              rw [hb']
              exact HQO.out
            · have hb' : some k = some g := hk.symm.trans h
              injection hb' with hb'
              intro e
              have := (HO.out.lt k e).2
              simp at hge
              omega
          · exact below_grown HB.out hBs g5 (fun k hk => by injection hk with hk; omega)
        · have hmin : min st f = st := by omega
          have hle : st ≤ f := by omega
          have HPD := Lib.hid (PI.done hf1 HND.out HPI.out hle)
          have hnp : ¬ ((0 : Int) < st - st) := by omega
          go_wp2_with (at_builtin; go_loud (refine wpList_append_own_at _ rfl _ _ 42 rfl w.heap.size 47 i0 _ 2 16 Try.underlying42 hi hz0 hz1 hz2 rfl (by omega) (.slice Ao out.length co) out.length (encJ out) rfl ((HO.out.alloc _).alloc _) ⟨wr.heap.size + 1, 0, none⟩ 1 1 [.int .i64 id, .int .i64 (tot + st)] rfl rfl (cell_two_at _ _ _ _ _ (by simp)) (two_one _ _) (by unfold maxLen; omega) (by omega) (by simp; omega) ?_; intro v5 w5 hq5 hg5 _ hat5; have HQ5 := Lib.hid hq5; have HG5 := Lib.hid hg5; have HA5 := Lib.hid hat5; clear hq5 hg5 hat5))
          have g5 : wr.grownBy w5 (Value.slice Ao out.length co).ownBlock := grown_step (World.grownBy_alloc wr _ _) (grown_step (World.grownBy_alloc _ _ _) HG5.out (.inl rfl)) (.inl rfl)
          have hbo : ∀ k, (Value.slice Ao out.length co).ownBlock = some k → w.heap.size ≤ k := fun k hk => (HO.out.lt k hk).1
          have hzz := g5.size
          refine ⟨⟨q, out ++ [⟨id, tot + st⟩], tot + st, v5, _, rfl, rfl, rfl, HPD.out, ?_, ?_, fun k hk => ⟨?_, ?_⟩, ?_⟩, by simp [intOf]; omega⟩
          · exact HT2.out.grown g5 (fun k hk e => by have hk' : b = k := Option.some.inj hk; subst hk'; exact HQO.out e)
          · rw [List.length_append, encJ_snoc]; exact HQ5.out
          · have hk' : b = k := Option.some.inj hk; omega
          · have hk' : b = k := Option.some.inj hk
            subst hk'
            rcases HA5.out with h | h
            · rw [h]; exact HQO.out
            · rw [h]; intro e; injection e with e; simp at e; omega
          · exact below_grown HB.out hBs g5 hbo
end Go.Proofs.Ytjcegplockihfaa
