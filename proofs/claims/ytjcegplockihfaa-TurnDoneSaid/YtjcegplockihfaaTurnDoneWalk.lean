/- The walk of the law TurnDone. -/
import Derived.Test.YtjcegplockihfaaTurnLagWalk
import Derived.Test.YtjcegplockihfaaMap
import Derived.Deep.DeepCutAuto
namespace Go.Proofs.Ytjcegplockihfaa
open Go.RowKit Go.ChangeShapes Go.WideShapes
set_option linter.unusedVariables false
/-- the places of the first i jobs that are done -/
def plc (out : List Jb) : Nat → Int → Option Int
  | 0 => fun _ => none
  | i + 1 => fun y => if y = (lstJ out i).id then some (i : Int) else plc out i y
theorem lstJ_ids {out : List Jb} {i : Nat} (h : i < out.length) : (idsJ out)[i]? = some (lstJ out i).id := by simp [idsJ, lstJ, h]
theorem plc_at {out : List Jb} (hnd : (idsJ out).Nodup) {j : Nat} : ∀ {i : Nat}, j < i → i ≤ out.length → plc out i (lstJ out j).id = some (j : Int) := by
  intro i
  induction i with
  | zero => intro h; omega
  | succ i ih =>
    intro h1 h2
    rw [plc]
    by_cases e : j = i
    · subst e; simp
    · have hne : (lstJ out j).id ≠ (lstJ out i).id := fun e' => e (by
        have h3 := lstJ_ids (out := out) (i := j) (by omega)
        have h4 := lstJ_ids (out := out) (i := i) (by omega)
        obtain ⟨h5, h6⟩ := List.getElem?_eq_some_iff.1 h3
        obtain ⟨h7, h8⟩ := List.getElem?_eq_some_iff.1 h4
        exact nodup_inj hnd h5 h7 (by rw [h6, h8, e']))
      dsimp only
      rw [if_neg hne]
      exact ih (by omega) (by omega)
theorem done_ids {l out : List Jb} {f tot : Int} (h : PI l f [] tot out) (hnd : (idsJ l).Nodup) : (idsJ out).Nodup := by
  have := h.ids.symm.nodup hnd
  simpa [idsJ] using this
theorem done_at {l out : List Jb} {f tot : Int} (h : PI l f [] tot out) {k : Nat} {j : Jb} (hj : l[k]? = some j) : ∃ i, i < out.length ∧ (lstJ out i).id = j.id := by
  have hmem : j.id ∈ idsJ out := by
    have h1 : j.id ∈ idsJ l := List.mem_map.2 ⟨j, List.mem_of_getElem? hj, rfl⟩
    have h2 := h.ids.symm.subset h1
    simpa [idsJ] using h2
  obtain ⟨i, hi⟩ := List.mem_iff_getElem?.1 hmem
  obtain ⟨hlt, he⟩ := List.getElem?_eq_some_iff.1 hi
  have hlt' : i < out.length := by simpa [idsJ] using hlt
  refine ⟨i, hlt', ?_⟩
  have := lstJ_ids hlt'
  rw [hi] at this
  injection this with this
  exact this.symm
theorem done_ord {l out : List Jb} {f tot : Int} (h : PI l f [] tot out) (hnd : (idsJ l).Nodup) {i k : Nat} {a b : Jb} (hik : i < k) (ha : l[i]? = some a) (hb : l[k]? = some b) (hab : a.st ≤ b.st) {p q : Nat} (hp : p < out.length) (hpa : (lstJ out p).id = a.id) (hq : q < out.length) (hqb : (lstJ out q).id = b.id) : p ≤ q := by
  have hno := done_ids h hnd
  rcases h.ord i k a b hik ha hb hab with ⟨D, E, t, hout, hD⟩ | ⟨A, B, C, x, y, hq, _⟩ | ⟨A, B, C, x, y, hq, _⟩
  · have h1 : (lstJ out D.length).id = a.id := by rw [hout]; simp [lstJ]
    have hl : D.length < out.length := by rw [hout]; simp
    have hpd : p = D.length := by
      obtain ⟨h5, h6⟩ := List.getElem?_eq_some_iff.1 (lstJ_ids hp)
      obtain ⟨h7, h8⟩ := List.getElem?_eq_some_iff.1 (lstJ_ids hl)
      exact nodup_inj hno h5 h7 (by rw [h6, h8, hpa, h1])
    rw [hpd]
    rcases Nat.lt_or_ge q D.length with hlt | hge
    · exfalso
      apply hD
      have : (lstJ out q) ∈ D := by rw [hout]; simp [lstJ, List.getElem?_append_left hlt, hlt]
      exact List.mem_map.2 ⟨_, this, hqb⟩
    · exact hge
  · simp at hq
  · simp at hq
theorem done_inc {l out : List Jb} {f tot : Int} (h : PI l f [] tot out) {k : Nat} (hk : k + 1 < out.length) : (lstJ out k).st < (lstJ out (k + 1)).st := by
  have := List.pairwise_iff_getElem.1 h.inc k (k + 1) (by simp; omega) (by simpa using hk) (by omega)
  simpa [lstJ, hk, show k < out.length by omega] using this
theorem done_last {l out : List Jb} {f tot : Int} (h : PI l f [] tot out) (hne : 0 < out.length) : (lstJ out (out.length - 1)).st = sumSt l := by
  obtain ⟨D, t, hout, ht⟩ := h.last (by intro e; rw [e] at hne; simp at hne)
  have hs := h.sum
  simp [sumSt] at hs
  have e : lstJ out (out.length - 1) = t := by rw [hout]; simp [lstJ]
  rw [e, ht rfl, hs]
theorem sum_jobs_succ (R : Nat → Jb) (k : Nat) : sumSt (jobsL R (k + 1)) = sumSt (jobsL R k) + (R k).st := by
  rw [jobsL_succ, sumSt_append]
  simp [sumSt]
theorem sum_jobs_bd {R : Nat → Jb} {n : Nat} {f : Int} (h : OkJ R n f) {k : Nat} (hk : k ≤ n) : 0 ≤ sumSt (jobsL R k) ∧ sumSt (jobsL R k) ≤ 1000000 := by
  have h1 := h.1
  have := sumSt_nonneg (q := jobsL R k) (fun j hj => by
    obtain ⟨i, hi, rfl⟩ := mem_jobsL.1 hj
    exact ⟨(h.2.2.2 i (by omega)).1, (h.2.2.2 i (by omega)).2.1⟩)
  rw [jobsL_len] at this
  omega
set_option maxRecDepth 100000 in
set_option maxHeartbeats 4000000 in
theorem turnDone_ok (A : Option Addr) (n c : Nat) (R : Nat → Jb) (f : Int) (w : World) (hn : n ≤ c) (hc : c ≤ 9223372036854775807) (hA : A = none → n = 0) (hR : Rd w 2 (jbC R) A n) (hwf : ∀ k, k < n → Wf (R k).id) (ok : OkJ R n f) :
    Calls Try.prog 7 #[.slice A n c, .int .i64 f] w fun e w' => e = .returned (.bool true) ∧ Below w.heap.size w w' := by
  have HR := Lib.hid hR
  have HA := Lib.hid hA
  have HWF := Lib.hid hwf
  have HK := Lib.hid ok
  have hn100 := ok.1
  have HND := Lib.hid ok.nodup
  have hmm := @run_makeMap Try.prog
  clear hR hA hwf ok
  go_enter Try.func7, Try.ntmps7
  go_wp2_with fail
  refine (plan_ok A n c R f w hn hc HA.out HR.out HK.out).mono ?_
  rintro e w1 ⟨v, out, tot, rfl, hown, hPI, hb1⟩
  obtain ⟨B, d, rfl, hnd, hdm, _⟩ := own_any hown
  have HO := Lib.hid (rd_jobs hown)
  have HPI := Lib.hid hPI
  have HB1 := Lib.hid hb1
  have hol : out.length = n := by have := hPI.len; rw [jobsL_len] at this; simpa using this
  have HOL := Lib.hid hol
  have hol1 : out.length ≤ n := by omega
  have hol2 : n ≤ out.length := by omega
  have HNO := Lib.hid (done_ids hPI HND.out)
  clear hown hPI hb1 hol
  go_wp2_with fail
  refine (turns_any _).mono ?_
  rintro e w2 ⟨rfl, hb2⟩
  have HO2 := Lib.hid (HO.out.below hb2)
  have HB2 := Lib.hid (HB1.out.trans (hb2.mono HB1.out.size))
  have HR2 := Lib.hid (HR.out.below HB2.out)
  clear hb2
  go_wp2_with fail
  go_loopw [8, 9, 38] (fun _ _ i wr => ∃ k : Nat, k ≤ out.length ∧ i = .int .i64 k ∧ OwnMI wr w2.heap.size k (plc out k) ∧ Below w2.heap.size w2 wr) (fun _ _ i _ => out.length - (intOf i).toNat)
  case atStart => exact ⟨0, Nat.zero_le _, rfl, OwnMI.made _, (Below.refl _ _).alloc (Nat.le_refl _) _⟩
  case round =>
    obtain ⟨k, hk, rfl, hM, hB⟩ := hrel
    have HM := Lib.hid hM
    have HB := Lib.hid hB
    have hBs := hB.size
    have hML := hM.lt
    by_cases hlt : k < out.length
    · obtain ⟨b, off, rfl, hb, hcell⟩ := HO2.out (by omega)
      have c0 : wr.cell? ⟨b, off + k * 2, none⟩ = some (.int .i64 (lstJ out k).id) := (hB.cell (p := ⟨b, _, none⟩) hb).trans (hcell k hlt 0 _ rfl)
      have c1 : wr.cell? ⟨b, off + k * 2 + 1, none⟩ = some (.int .i64 (lstJ out k).st) := (hB.cell (p := ⟨b, _, none⟩) hb).trans (hcell k hlt 1 _ rfl)
      have hwk : Wf (lstJ out k).id := by
        have h1 : (lstJ out k).id ∈ idsJ (jobsL R n) := by
          have h2 := lstJ_ids hlt
          have h3 := HPI.out.ids.subset (show (lstJ out k).id ∈ idsJ [] ++ idsJ out by simpa [idsJ] using List.mem_of_getElem? h2)
          exact h3
        obtain ⟨j, hj, he⟩ := List.mem_map.1 h1
        obtain ⟨i, hi, rfl⟩ := mem_jobsL.1 hj
        rw [← he]
        exact HWF.out i hi
      have HWK := Lib.hid hwk
      have i0 : (0 : Int) ≤ (k : Int) := by omega
      have i1 : (k : Int) < (out.length : Int) := by omega
      have hbw : b < wr.heap.size := by omega
      have hinc : ∀ j, j + 1 = k → wr.cell? ⟨b, off + j * 2 + 1, none⟩ = some (.int .i64 (lstJ out j).st) ∧ (lstJ out j).st < (lstJ out k).st := fun j hj => by
        subst hj
        exact ⟨(hB.cell (p := ⟨b, _, none⟩) hb).trans (hcell j (by omega) 1 _ rfl), done_inc HPI.out hlt⟩
      have HINC := Lib.hid hinc
      clear hM hB hwk hcell hinc
      generalize hid : (lstJ out k).id = id at *
      have HID := Lib.hid hid
      clear hid
      generalize hst : (lstJ out k).st = st at *
      have HST := Lib.hid hst
      clear hst
      go_wp2_with fail
      go_cut [55] (fun x wx => x = .bool false ∧ ∃ q, wx = (wr.alloc (.cells #[.int .i64 id, .int .i64 st] 47)).drewN q)
      case first =>
        by_cases hk0 : k = 0
        · have d0 : decide ((0 : Int) < (k : Int)) = false := by simp; omega
          have d1 : decide (0 < k) = false := by simp; omega
          clear hk0
          go_quiet (fail)
          go_wp2_with fail
          go_meet
          exact ⟨rfl, nq, rfl⟩
        · have d0 : decide ((0 : Int) < (k : Int)) = true := by simp; omega
          have d1 : decide (0 < k) = true := by simp; omega
          obtain ⟨e1, e2⟩ := HINC.out (k - 1) (by omega)
          have e1' : (wr.alloc (.cells #[.int .i64 id, .int .i64 st] 47)).cell? ⟨b, off + (k - 1) * 2 + 1, none⟩ = some (.int .i64 (lstJ out (k - 1)).st) := (World.cell?_alloc_lt _ _ ⟨b, _, none⟩ hbw).trans e1
          have j1 : (0 : Int) ≤ (k : Int) - 1 := by omega
          have j2 : (k : Int) - 1 < (out.length : Int) := by omega
          have j3 : ((k : Int) - 1).toNat = k - 1 := by omega
          have j4 : IntKind.i64.wrap ((k : Int) - 1) = (k : Int) - 1 := IntWalk.i64_in _ (by omega)
          have j5 : (1 : Int) ≤ (k : Int) := by omega
          have hge : ¬ (st ≤ (lstJ out (k - 1)).st) := by omega
          have hge2 : decide (st ≤ (lstJ out (k - 1)).st) = false := by simpa using hge
          clear hk0 e1
          go_quiet (fail)
          go_wp2_with fail
          go_meet
          exact ⟨rfl, nq, rfl⟩
      case rest =>
      obtain ⟨hx, q, hwc⟩ := hcut
      subst hx hwc
      have HMa := Lib.hid ((HM.out.below ((Below.refl _ _).alloc (Nat.le_refl _) (.cells #[.int .i64 id, .int .i64 st] 47))).below (below_drewN (Below.refl _ _) q))
      clear c0 c1
      go_wp2_with (at_mapUpdate; go_loud (refine wpList_store_I rfl _ _ _ rfl w2.heap.size k (plc out k) rfl HMa.out (by unfold maxLen; omega) id k rfl rfl HWK.out (Wf.of (by omega) (by omega)) ?_; intro w5 hM5 hg5; have HM5 := Lib.hid hM5; have HG5 := Lib.hid hg5; clear hM5 hg5))
      refine ⟨⟨k + 1, by omega, by go_num, ?_, ?_⟩, by simp [intOf]; omega⟩
      · have e : plc out (k + 1) = fun y => if y = id then some (k : Int) else plc out k y := by rw [plc, HID.out]
        rw [e]
        exact HM5.out
      · exact below_grown (below_drewN (HB.out.alloc hBs _) q) (by show w2.heap.size ≤ (wr.alloc _).heap.size; simp; omega) HG5.out (fun j hj => by injection hj with hj; omega)
    · have HMx : Hid (OwnMI wr w2.heap.size n (plc out out.length)) := Lib.hid (by obtain rfl : k = out.length := by omega
                                                                                   rw [← HOL.out]; exact hM)
      have HBx := Lib.hid hB
      clear hM hB
      go_wp2_with fail
      go_loopw [10, 11, 12, 13, 14, 16, 63, 86] (fun al _ _ _ _ _ i _ wq => ∃ k : Nat, k ≤ n ∧ i = .int .i64 k ∧ al = .int .i64 (sumSt (jobsL R k)) ∧ OwnMI wq w2.heap.size n (plc out out.length) ∧ Below w2.heap.size w2 wq) (fun _ _ _ _ _ _ i _ _ => n - (intOf i).toNat)
      case atStart => exact ⟨0, Nat.zero_le _, rfl, rfl, HMx.out, HBx.out⟩
      case round =>
        obtain ⟨wo, hwo⟩ : ∃ wo : World, wo = wr := ⟨_, rfl⟩
        subst hwo
        obtain ⟨k, hk, rfl, rfl, hM, hB⟩ := hrel
        have HM := Lib.hid hM
        have HB := Lib.hid hB
        have hBs := hB.size
        obtain ⟨sb0, sb1⟩ := sum_jobs_bd HK.out hk
        by_cases hlt : k < n
        · obtain ⟨b, off, rfl, hb, hcell⟩ := HR2.out (by omega)
          have c0 : wo.cell? ⟨b, off + k * 2, none⟩ = some (.int .i64 (R k).id) := (hB.cell (p := ⟨b, _, none⟩) hb).trans (hcell k hlt 0 _ rfl)
          have c1 : wo.cell? ⟨b, off + k * 2 + 1, none⟩ = some (.int .i64 (R k).st) := (hB.cell (p := ⟨b, _, none⟩) hb).trans (hcell k hlt 1 _ rfl)
          have HC := Lib.hid hcell
          have HSS := Lib.hid (sum_jobs_succ R k)
          obtain ⟨st0, st1, _⟩ := HK.out.2.2.2 k hlt
          obtain ⟨p, hp, hpid⟩ := done_at HPI.out (jobsL_get R hlt)
          have hplc := plc_at HNO.out hp (Nat.le_refl _)
          rw [hpid] at hplc
          have hlook := (HM.out.below ((Below.refl _ _).alloc (Nat.le_refl _) (.cells #[.int .i64 (R k).id, .int .i64 (R k).st] 47))).look_ok (HWF.out k hlt)
          rw [hplc] at hlook
          simp only [Option.getD_some, Option.isSome_some] at hlook
          have HPID := Lib.hid hpid
          have hbw : b < wo.heap.size := by omega
          clear hM hB hcell hplc hpid
          generalize hid : (R k).id = id at *
          have HID := Lib.hid hid
          clear hid
          generalize hst : (R k).st = st at *
          have HST := Lib.hid hst
          clear hst
          generalize sumSt (jobsL R k) = sk at *
          have i0 : (0 : Int) ≤ (k : Int) + 1 := by omega
          have i1 : (k : Int) + 1 ≤ (c : Int) := by omega
          have i2 : (k : Int) + 1 ≤ (n : Int) := by omega
          have i3 : ((k : Int) + 1).toNat = k + 1 := by omega
          have HM3 := Lib.hid (HM.out.below ((Below.refl _ _).alloc (Nat.le_refl _) (.cells #[.int .i64 id, .int .i64 st] 47)))
          have HB3 := Lib.hid (HB.out.alloc hBs (.cells #[.int .i64 id, .int .i64 st] 47))
          have HJ : Hid ((wo.alloc (.cells #[.int .i64 id, .int .i64 st] 47)).cell? ⟨wo.heap.size, 1, none⟩ = some (.int .i64 st)) := Lib.hid (by simp [go_sem])
          have HZ : Hid (wo.heap.size < (wo.alloc (.cells #[.int .i64 id, .int .i64 st] 47)).heap.size) := Lib.hid (by simp)
          by_cases hck : c = k + 1
          · have hck' : ((c : Int) = (k : Int) + 1) := by omega
            obtain rfl : n = k + 1 := by omega
            subst hck
            clear hck' i1 i2
            go_wp2_with fail
            clear c0 c1 hlook
            generalize wo.alloc (.cells #[.int .i64 id, .int .i64 st] 47) = w3 at *
            go_loopw [16, 86] (fun _ i wq => i = .int .i64 0 ∧ wq = w3) (fun _ i _ => 0)
            case atStart => exact ⟨rfl, rfl⟩
            case round =>
              obtain ⟨rfl, rfl⟩ := hrel
              go_wp2_with fail
              go_roundw
              case rel => exact ⟨k + 1, by omega, by go_num, by rw [HSS.out], HM3.out, HB3.out⟩
              case measure => simp [intOf]
          · have hck' : ¬ ((c : Int) = (k : Int) + 1) := by omega
            go_wp2_with fail
            clear c0 c1 hlook
            generalize wo.alloc (.cells #[.int .i64 id, .int .i64 st] 47) = w3 at *
            go_loopw [16, 86] (fun _ i wq => ∃ q : Nat, q ≤ n - (k + 1) ∧ i = .int .i64 q ∧ Below w3.heap.size w3 wq) (fun _ i _ => n - (intOf i).toNat)
            case atStart => exact ⟨0, Nat.zero_le _, rfl, Below.refl _ _⟩
            case round =>
              obtain ⟨q, hq, rfl, hBq⟩ := hrel
              have HBq := Lib.hid hBq
              have HMq := Lib.hid (HM3.out.below hBq)
              have HB2q := Lib.hid (HB3.out.trans (hBq.mono HB3.out.size))
              have hqs := hBq.size
              by_cases hlq : q < n - (k + 1)
              · have hm : k + 1 + q < n := by omega
                have a1 : wr.cell? ⟨b, off + (k + 1) * 2 + q * 2, none⟩ = some (.int .i64 (R (k + 1 + q)).id) := by
                  have := (HB2q.out.cell (p := ⟨b, off + (k + 1 + q) * 2, none⟩) hb).trans (HC.out (k + 1 + q) hm 0 _ rfl)
                  rw [show off + (k + 1) * 2 + q * 2 = off + (k + 1 + q) * 2 by omega]
                  exact this
                have a2 : wr.cell? ⟨b, off + (k + 1) * 2 + q * 2 + 1, none⟩ = some (.int .i64 (R (k + 1 + q)).st) := by
                  have := (HB2q.out.cell (p := ⟨b, off + (k + 1 + q) * 2 + 1, none⟩) hb).trans (HC.out (k + 1 + q) hm 1 _ rfl)
                  rw [show off + (k + 1) * 2 + q * 2 + 1 = off + (k + 1 + q) * 2 + 1 by omega]
                  exact this
                have a3 : wr.cell? ⟨wo.heap.size, 1, none⟩ = some (.int .i64 st) := (hBq.cell (p := ⟨_, _, none⟩) HZ.out).trans HJ.out
                have hzw : wo.heap.size < wr.heap.size := by have := HZ.out; omega
                obtain ⟨p2, hp2, hpid2⟩ := done_at HPI.out (jobsL_get R hm)
                have hplc2 := plc_at HNO.out hp2 (Nat.le_refl _)
                rw [hpid2] at hplc2
                have hord : st ≤ (R (k + 1 + q)).st → p ≤ p2 := fun hle => done_ord HPI.out HND.out (show k < k + 1 + q by omega) (jobsL_get R hlt) (jobsL_get R hm) (by rw [HST.out]; exact hle) hp (by rw [HPID.out, HID.out]) hp2 hpid2
                have hlook2 := (HMq.out.below ((Below.refl _ _).alloc (Nat.le_refl _) (.cells #[.int .i64 (R (k + 1 + q)).id, .int .i64 (R (k + 1 + q)).st] 47))).look (HWF.out _ hm)
                rw [hplc2] at hlook2
                simp only [Option.getD_some] at hlook2
                have HORD := Lib.hid hord
                clear hBq hplc2 hpid2 hord
                generalize (R (k + 1 + q)).id = id2 at *
                generalize (R (k + 1 + q)).st = st2 at *
                have q0 : (0 : Int) ≤ (q : Int) := by omega
                have q1 : (q : Int) < ((n - (k + 1) : Nat) : Int) := by omega
                by_cases hle : st ≤ st2
                · have d1 : decide (st ≤ st2) = true := by simpa using hle
                  have hpp : ¬ (p2 < p) := by have := HORD.out hle; omega
                  have hpp2 : decide ((p2 : Int) < (p : Int)) = false := by simp; omega
                  go_wp2_with fail
                  go_roundw
                  case rel => exact ⟨q + 1, by omega, by go_num, HBq.out.alloc hqs _⟩
                  case measure => simp [intOf]; omega
                · have d1 : decide (st ≤ st2) = false := by simpa using hle
                  go_wp2_with fail
                  go_roundw
                  case rel => exact ⟨q + 1, by omega, by go_num, HBq.out.alloc hqs _⟩
                  case measure => simp [intOf]; omega
              · clear hBq
                go_wp2_with fail
                go_roundw
                case rel => exact ⟨k + 1, by omega, by go_num, by rw [HSS.out], HMq.out, HB2q.out⟩
                case measure => simp [intOf]; omega
        · obtain rfl : k = n := by omega
          have HBw := Lib.hid (HB2.out.trans (HB.out.mono HB2.out.size))
          have e1 : ((out.length : Int) == (k : Int)) = true := by simp; omega
          by_cases h0 : k = 0
          · have e2 : ((k : Int) == 0) = true := by simp; omega
            clear hM hB h0
            go_wp2_with fail
            go_ret
            exact ⟨rfl, HBw.out⟩
          · have e2 : ((k : Int) == 0) = false := by simp; omega
            obtain ⟨b, off, rfl, hb, hcell⟩ := HO2.out (by omega)
            have c1 : wo.cell? ⟨b, off + (out.length - 1) * 2 + 1, none⟩ = some (.int .i64 (sumSt (jobsL R k))) := by
              rw [← done_last HPI.out (by omega)]
              exact (hB.cell (p := ⟨b, _, none⟩) hb).trans (hcell (out.length - 1) (by omega) 1 _ rfl)
            have j1 : (0 : Int) ≤ (out.length : Int) - 1 := by omega
            have j2 : (out.length : Int) - 1 < (out.length : Int) := by omega
            have j3 : ((out.length : Int) - 1).toNat = out.length - 1 := by omega
            have j5 : (1 : Int) ≤ (out.length : Int) := by omega
            clear hM hB h0 hcell
            go_wp2_with fail
            go_ret
            exact ⟨rfl, HBw.out⟩
set_option maxRecDepth 100000 in
set_option maxHeartbeats 1000000 in
theorem turnDone_bad (A : Option Addr) (n c : Nat) (R : Nat → Jb) (f : Int) (w : World) (hn : n ≤ c) (hc : c ≤ 9223372036854775807) (hR : Rd w 2 (jbC R) A n) (ok : ¬ OkJ R n f) :
    Calls Try.prog 7 #[.slice A n c, .int .i64 f] w fun e w' => e = .returned (.bool true) ∧ Below w.heap.size w w' := by
  have HR := Lib.hid hR
  have HK := Lib.hid ok
  clear hR ok
  go_enter Try.func7, Try.ntmps7
  go_wp2_with fail
  refine (plan_bad A n c R f w hn hc HR.out HK.out).mono ?_
  rintro e w1 ⟨x, hx, rfl, hb1⟩
  have hx0 : (x != 0) = true := by simpa using hx
  have HB1 := Lib.hid hb1
  clear hb1
  go_wp2_with fail
  refine (turns_any _).mono ?_
  rintro e w2 ⟨rfl, hb2⟩
  have HB2 := Lib.hid (HB1.out.trans (hb2.mono HB1.out.size))
  clear hb2
  go_wp2_with fail
  refine (turns_any _).mono ?_
  rintro e w3 ⟨rfl, hb3⟩
  have HB3 := Lib.hid (HB2.out.trans (hb3.mono HB2.out.size))
  clear hb3
  go_wp2_with fail
  go_ret
  exact ⟨rfl, HB3.out⟩
set_option maxRecDepth 100000 in
theorem open_jobs_wf {H : Type} {enc : TypeId × Value → H} {W : World} {base : Nat} {v : Value} {d : DataW H} {p : List MemPlace} (k0 : Value.okWide Try.prog W .any base 42 v) (h0 : DataW.Trod enc Try.prog W 0 (fun _ => true) true 42 v d p) :
    ∃ A n c R, v = .slice A n c ∧ n ≤ c ∧ c ≤ 9223372036854775807 ∧ (A = none → n = 0) ∧ Rd W 2 (jbC R) A n ∧ ∀ k, k < n → Wf (R k).id := by
  obtain ⟨a0, l0, cp0, rfl⟩ := okWide_slice Try.underlying42 k0
  obtain ⟨fuel, hf⟩ := h0
  obtain ⟨A, n, c, C, hcs, hnc, hcm, hA, hR, hlen, hel⟩ := open_rows Try.underlying42 (sz := 2) (by kernel_rfl) (by omega) hf
  have hv : Value.slice a0 l0 cp0 = .slice A n c := by simpa [Value.cells] using hcs
  have hall : ∀ i, ∃ q : Jb, i < n → C i = jbC (fun _ => q) i ∧ Wf q.id := fun i => by
    by_cases hi : i < n
    · obtain ⟨m, y, hy⟩ := hel i hi
      have hf := trod_fields Try.underlying47 (by kernel_rfl) hy
      match hC : C i, hlen i with
      | [c0, c1], _ =>
        rw [hC] at hf
        obtain ⟨m0, y0, h0⟩ := hf 0 _ c0 rfl rfl
        obtain ⟨m1, y1, h1⟩ := hf 1 _ c1 rfl rfl
        obtain ⟨z0, e0, _, wf0⟩ := DataW.trod_int Try.underlying3 h0
        obtain ⟨z1, e1, _, _⟩ := DataW.trod_int Try.underlying3 h1
        simp at e0 e1
        exact ⟨⟨z0, z1⟩, fun _ => ⟨by rw [e0, e1]; rfl, wf0⟩⟩
    · exact ⟨⟨0, 0⟩, fun h => absurd h hi⟩
  obtain ⟨Q, hQ⟩ := Classical.axiomOfChoice hall
  exact ⟨A, n, c, Q, hv, hnc, hcm, hA, hR.congr fun k hk => (hQ k hk).1, fun k hk => (hQ k hk).2⟩
set_option maxRecDepth 100000 in
theorem turnDone_walk {H : Type} {enc : TypeId × Value → H} (W : World) (base : Nat) (v0 v1 : Value) {d0 d1 : DataW H} {p0 p1 : List MemPlace}
    (k0 : Value.okWide Try.prog W .any base 42 v0) (k1 : Value.okWide Try.prog W .any base 3 v1)
    (h0 : DataW.Trod enc Try.prog W 0 (fun _ => true) true 42 v0 d0 p0) (h1 : DataW.Trod enc Try.prog W 0 (fun _ => true) true 3 v1 d1 p1) :
    Calls Try.prog 7 #[v0, v1] W fun e W' => e = .returned (.bool true) ∧ Below W.heap.size W W' := by
  obtain ⟨A, n, c, R, rfl, hnc, hcm, hA, hR, hwf⟩ := open_jobs_wf k0 h0
  obtain ⟨a1, rfl, _, _, _⟩ := open_int Try.underlying3 k1 h1
  by_cases ok : OkJ R n a1
  · exact turnDone_ok A n c R a1 W hnc hcm hA hR hwf ok
  · exact turnDone_bad A n c R a1 W hnc hcm hR ok
end Go.Proofs.Ytjcegplockihfaa
