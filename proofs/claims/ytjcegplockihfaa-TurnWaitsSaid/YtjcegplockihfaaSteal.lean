/- Lines of tasks: how they lie; the contracts of steal.Check and steal.checkCpu. -/
import Derived.Test.YtjcegplockihfaaInts
import Derived.Test.YtjcegplockihfaaMap
import Derived.IntWalk
namespace Go.Proofs.Ytjcegplockihfaa
open Go.RowKit
set_option linter.unusedVariables false
/-- the numbers l, read through a slice whose block lies in S -/
def RdI (w : World) (S : Nat → Prop) (A : Option Addr) (l : List Int) : Prop :=
  0 < l.length → ∃ b off, A = some ⟨b, off, none⟩ ∧ b < w.heap.size ∧ S b ∧ ∀ j, j < l.length → w.cell? ⟨b, off + j, none⟩ = some (.int .i64 (lst l j))
/-- the lines Q, read through a slice whose blocks lie in S -/
def RdLs (w : World) (S : Nat → Prop) (A : Option Addr) (n : Nat) (Q : Nat → List Int) : Prop :=
  0 < n → ∃ b off, A = some ⟨b, off, none⟩ ∧ b < w.heap.size ∧ S b ∧ ∀ i, i < n → ∃ (qA : Option Addr) (qc : Nat), w.cell? ⟨b, off + i, none⟩ = some (.slice qA (Q i).length qc) ∧ (Q i).length ≤ qc ∧ qc ≤ 9223372036854775807 ∧ (qA = none → (Q i).length = 0) ∧ RdI w S qA (Q i)
theorem RdI.frame {w w' : World} {S S' : Nat → Prop} {A : Option Addr} {l : List Int} (h : RdI w S A l) (hsz : w.heap.size ≤ w'.heap.size) (hS : ∀ b, S b → b < w.heap.size → S' b ∧ w'.heap[b]? = w.heap[b]?) : RdI w' S' A l := fun h0 => by
  obtain ⟨b, off, hA, hb, hs, hc⟩ := h h0
  obtain ⟨s1, s2⟩ := hS b hs hb
  exact ⟨b, off, hA, by omega, s1, fun j hj => (World.cell?_of_block (a := ⟨b, _, none⟩) s2).trans (hc j hj)⟩
theorem RdLs.frame {w w' : World} {S S' : Nat → Prop} {A : Option Addr} {n : Nat} {Q : Nat → List Int} (h : RdLs w S A n Q) (hsz : w.heap.size ≤ w'.heap.size) (hS : ∀ b, S b → b < w.heap.size → S' b ∧ w'.heap[b]? = w.heap[b]?) : RdLs w' S' A n Q := fun h0 => by
  obtain ⟨b, off, hA, hb, hs, hc⟩ := h h0
  obtain ⟨s1, s2⟩ := hS b hs hb
  refine ⟨b, off, hA, by omega, s1, fun i hi => ?_⟩
  obtain ⟨qA, qc, h1, h2, h3, h4, h5⟩ := hc i hi
  exact ⟨qA, qc, (World.cell?_of_block (a := ⟨b, _, none⟩) s2).trans h1, h2, h3, h4, h5.frame hsz hS⟩
theorem RdI.below {w w' : World} {S : Nat → Prop} {A : Option Addr} {l : List Int} (h : RdI w S A l) (hb : Below w.heap.size w w') : RdI w' S A l := h.frame hb.size (fun b hs hlt => ⟨hs, hb.block b hlt⟩)
theorem RdLs.below {w w' : World} {S : Nat → Prop} {A : Option Addr} {n : Nat} {Q : Nat → List Int} (h : RdLs w S A n Q) (hb : Below w.heap.size w w') : RdLs w' S A n Q := h.frame hb.size (fun b hs hlt => ⟨hs, hb.block b hlt⟩)
theorem RdI.rd {w : World} {S : Nat → Prop} {A : Option Addr} {l : List Int} (h : RdI w S A l) : Rd w 1 (tmC (lst l)) A l.length := fun h0 => by
  obtain ⟨b, off, hA, hb, _, hc⟩ := h h0
  refine ⟨b, off, hA, hb, fun k hk j u hu => ?_⟩
  match j, hu with
  | 0, hu => simp [tmC] at hu; subst hu; simpa using hc k hk
/-- the tasks of the first i lines -/
def catTo (Q : Nat → List Int) : Nat → List Int
  | 0 => []
  | i + 1 => catTo Q i ++ Q i
theorem catTo_mono (Q : Nat → List Int) {i k : Nat} (h : i ≤ k) : ∃ m, catTo Q k = catTo Q i ++ m := by
  induction k with
  | zero => obtain rfl : i = 0 := by omega
            exact ⟨[], by simp⟩
  | succ k ih =>
    by_cases e : i = k + 1
    · subst e; exact ⟨[], by simp⟩
    · obtain ⟨m, hm⟩ := ih (by omega)
      exact ⟨m ++ Q k, by rw [catTo, hm, List.append_assoc]⟩
def OkLs (Q : Nat → List Int) (n : Nat) : Prop := 1 ≤ n ∧ n ≤ 8 ∧ (catTo Q n).length ≤ 100 ∧ (catTo Q n).Nodup
def ChkS (Ok : Prop) (w : World) (e : Ending) (w' : World) : Prop := ∃ x : Int, e = .returned (.int .i64 x) ∧ (x = 0 ↔ Ok) ∧ Below w.heap.size w w'
def WfQ (Q : Nat → List Int) (n : Nat) : Prop := ∀ i, i < n → (Q i).length ≤ 17592186044416 ∧ ∀ x ∈ Q i, Wf x
/-- what has been seen: the first i lines, and the first q tasks of the next one -/
def seenB (Q : Nat → List Int) (i q : Nat) : Int → Bool := fun x => decide (x ∈ catTo Q i ++ (Q i).take q)
theorem seen_step (Q : Nat → List Int) {i q : Nat} (h : q < (Q i).length) : seenB Q i (q + 1) = fun y => if y = lst (Q i) q then true else seenB Q i q y := by
  funext y
  unfold seenB
  rw [List.take_succ_eq_append_getElem h, ← List.append_assoc]
  by_cases e : y = lst (Q i) q
  · rw [if_pos e, decide_eq_true_eq, List.mem_append]
    right
    simp [e, lst, h]
  · rw [if_neg e, Bool.eq_iff_iff, decide_eq_true_eq, decide_eq_true_eq, List.mem_append]
    constructor
    · rintro (h1 | h1)
      · exact h1
      · exfalso; apply e; simpa [lst, h] using h1
    · exact .inl
theorem seen_next (Q : Nat → List Int) (i : Nat) : seenB Q i (Q i).length = seenB Q (i + 1) 0 := by
  funext y
  unfold seenB
  simp [catTo]
theorem nodup_step {Q : Nat → List Int} {i q : Nat} (h : q < (Q i).length) (hn : (catTo Q i ++ (Q i).take q).Nodup) (hs : seenB Q i q (lst (Q i) q) = false) : (catTo Q i ++ (Q i).take (q + 1)).Nodup := by
  rw [List.take_succ_eq_append_getElem h, ← List.append_assoc, List.nodup_append]
  refine ⟨hn, by simp, fun a ha b hb => ?_⟩
  simp at hb
  subst hb
  intro e
  subst e
  unfold seenB at hs
  rw [decide_eq_false_iff_not] at hs
  apply hs
  simpa [lst, h] using ha
theorem seen_dup {Q : Nat → List Int} {i q : Nat} (h : q < (Q i).length) (hs : seenB Q i q (lst (Q i) q) = true) : ¬ (catTo Q (i + 1)).Nodup := by
  intro hn
  rw [catTo] at hn
  unfold seenB at hs
  rw [decide_eq_true_eq] at hs
  have e : Q i = (Q i).take q ++ ((Q i)[q] :: (Q i).drop (q + 1)) := by rw [← List.drop_eq_getElem_cons h, List.take_append_drop]
  rw [e, ← List.append_assoc, List.nodup_append] at hn
  exact hn.2.2 _ hs ((Q i)[q]) (List.mem_cons_self ..) (by simp [lst, h])
set_option maxRecDepth 100000 in
set_option maxHeartbeats 2000000 in
theorem checkS_any (A : Option Addr) (n c : Nat) (Q : Nat → List Int) (S : Nat → Prop) (w : World) (hn : n ≤ c) (hc : c ≤ 9223372036854775807) (hR : RdLs w S A n Q) (hwf : WfQ Q n) :
    Calls Try.prog 40 #[.slice A n c] w (ChkS (OkLs Q n) w) := by
  have HR := Lib.hid hR
  have HWF := Lib.hid hwf
  have hmm := @run_makeMap Try.prog
  clear hR hwf
  by_cases q1 : n < 1
  · have e1 : decide ((n : Int) < 1) = true := by simp; omega
    go_enter Try.func40, Try.ntmps40
    go_wp2_with fail
    go_ret
    exact ⟨1, rfl, ⟨fun h => by omega, fun h => by have := h.1; omega⟩, Below.refl _ _⟩
  have e1 : decide ((n : Int) < 1) = false := by simp; omega
  by_cases q2 : 8 < n
  · have e2 : decide ((8 : Int) < (n : Int)) = true := by simp; omega
    go_enter Try.func40, Try.ntmps40
    go_wp2_with fail
    go_ret
    exact ⟨1, rfl, ⟨fun h => by omega, fun h => by have := h.2.1; omega⟩, Below.refl _ _⟩
  have e2 : decide ((8 : Int) < (n : Int)) = false := by simp; omega
  go_enter Try.func40, Try.ntmps40
  go_wp2_with fail
  go_loopw [4, 6, 8, 20, 32] (fun t _ _ x _ wr => ∃ i : Nat, i ≤ n ∧ x = .int .i64 i ∧ t = .int .i64 (catTo Q i).length ∧ (catTo Q i).length ≤ 100 ∧ (catTo Q i).Nodup ∧ OwnMB wr w.heap.size (catTo Q i).length (seenB Q i 0) ∧ Below w.heap.size w wr) (fun _ _ _ x _ _ => n - (intOf x).toNat)
  case atStart => exact ⟨0, Nat.zero_le _, rfl, rfl, by simp [catTo], by simp [catTo], by rw [show seenB Q 0 0 = fun _ => false by funext y; simp [seenB, catTo]]; exact OwnMB.made w, (Below.refl _ _).alloc (Nat.le_refl _) _⟩
  case round =>
    obtain ⟨wo, hwo⟩ : ∃ wo : World, wo = wr := ⟨_, rfl⟩
    subst hwo
    obtain ⟨i, hi, rfl, rfl, h100, hnd, hM, hB⟩ := hrel
    have HM := Lib.hid hM
    have HB := Lib.hid hB
    have HND := Lib.hid hnd
    by_cases hlt : i < n
    · obtain ⟨b, off, rfl, hb, hSb, hcell⟩ := HR.out (by omega)
      obtain ⟨qA, qc, h1, h2, h3, h4, h5⟩ := hcell i hlt
      have c0 : wo.cell? ⟨b, off + i, none⟩ = some (.slice qA (Q i).length qc) := (hB.cell (p := ⟨b, _, none⟩) hb).trans h1
      have HQ := Lib.hid h5
      have HW := Lib.hid (HWF.out i hlt).2
      have hsm := (HWF.out i hlt).1
      have HMO := Lib.hid (catTo_mono Q (show i + 1 ≤ n by omega))
      have hcl : (catTo Q (i + 1)).length = (catTo Q i).length + (Q i).length := by rw [catTo, List.length_append]
      have HCL := Lib.hid hcl
      have HSN := Lib.hid (seen_next Q i)
      clear hM hB hnd hcell h1 h5 hcl h4
      by_cases hbig : 100 < (catTo Q i).length + (Q i).length
      · have d1 : decide ((100 : Int) < ((catTo Q i).length : Int) + ((Q i).length : Int)) = true := by simp; omega
        have d2 : decide (100 < (catTo Q i).length + (Q i).length) = true := by simp; omega
        have d3 : (100 : Int) < ((catTo Q i).length : Int) + ((Q i).length : Int) := by omega
        have d4 : 100 < (catTo Q i).length + (Q i).length := by omega
        go_wp2_with fail
        go_ret
        exact ⟨2, rfl, ⟨fun h => by omega, fun h => by
          obtain ⟨m, hm⟩ := HMO.out
          have h1 := h.2.2.1
          rw [hm, List.length_append, HCL.out] at h1
          omega⟩, HB.out⟩
      · have d1 : decide ((100 : Int) < ((catTo Q i).length : Int) + ((Q i).length : Int)) = false := by simp; omega
        have d2 : decide (100 < (catTo Q i).length + (Q i).length) = false := by simp; omega
        have d3 : ¬ ((100 : Int) < ((catTo Q i).length : Int) + ((Q i).length : Int)) := by omega
        have d4 : ¬ (100 < (catTo Q i).length + (Q i).length) := by omega
        go_wp2_with fail
        clear c0
        go_loopw [8, 32] (fun _ x wr => ∃ q : Nat, q ≤ (Q i).length ∧ x = .int .i64 q ∧ (catTo Q i ++ (Q i).take q).Nodup ∧ OwnMB wr w.heap.size ((catTo Q i).length + q) (seenB Q i q) ∧ Below w.heap.size w wr) (fun _ x _ => (Q i).length - (intOf x).toNat)
        case atStart => exact ⟨0, Nat.zero_le _, rfl, by simpa using HND.out, HM.out, HB.out⟩
        case round =>
          obtain ⟨q, hq, rfl, hnd, hM, hB⟩ := hrel
          have HMq := Lib.hid hM
          have HBq := Lib.hid hB
          have HNq := Lib.hid hnd
          by_cases hlq : q < (Q i).length
          · obtain ⟨b2, off2, rfl, hb2, _, hc2⟩ := HQ.out (by omega)
            have c1 : wr.cell? ⟨b2, off2 + q, none⟩ = some (.int .i64 (lst (Q i) q)) := (hB.cell (p := ⟨b2, _, none⟩) hb2).trans (hc2 q hlq)
            have hwx : Wf (lst (Q i) q) := HW.out _ (by simp [lst, hlq])
            have hlook := hM.look hwx
            have HWX := Lib.hid hwx
            have HSS := Lib.hid (seen_step Q hlq)
            have HNS := Lib.hid (nodup_step hlq hnd)
            clear hM hB hnd hc2 hwx
            cases hsn : seenB Q i q (lst (Q i) q) with
            | true =>
              rw [hsn] at hlook
              have HSE := Lib.hid hsn
              clear hsn
              have HDUP := Lib.hid (seen_dup hlq HSE.out)
              generalize lst (Q i) q = xq at *
              go_wp2_with fail
              go_ret
              refine ⟨5, rfl, ⟨fun h => by omega, fun h => ?_⟩, HBq.out⟩
              obtain ⟨m, hm⟩ := HMO.out
              have h1 := h.2.2.2
              rw [hm, List.nodup_append] at h1
              exact absurd h1.1 HDUP.out
            | false =>
              rw [hsn] at hlook
              have HSE := Lib.hid hsn
              clear hsn
              generalize hx : lst (Q i) q = xq at *
              have HX := Lib.hid hx
              clear hx
              go_wp2_with (at_mapUpdate; go_loud (refine wpList_store_B rfl _ _ _ rfl w.heap.size _ _ rfl HMq.out (by unfold maxLen; omega) xq true rfl rfl HWX.out ?_; intro w5 hM5 hg5; have HM5 := Lib.hid hM5; have HG5 := Lib.hid hg5; clear hM5 hg5))
              refine ⟨⟨q + 1, by omega, by go_num, HNS.out HSE.out, ?_, ?_⟩, by simp [intOf]; omega⟩
              · rw [HSS.out]; exact HM5.out
              · exact below_grown HBq.out HBq.out.size HG5.out (fun j hj => by injection hj with hj; omega)
          · clear hM hB hnd
            obtain rfl : q = (Q i).length := by omega
            go_wp2_with fail
            have hnn := HNq.out
            rw [List.take_length] at hnn
            have hmm2 := HMq.out
            rw [HSN.out, ← HCL.out] at hmm2
            exact ⟨⟨i + 1, by omega, by go_num, by rw [HCL.out]; go_num, by rw [HCL.out]; omega, hnn, hmm2, HBq.out⟩, by simp [intOf]; omega⟩
    · obtain rfl : i = n := by omega
      clear hM hB hnd
      go_wp2_with fail
      go_ret
      exact ⟨0, rfl, ⟨fun _ => ⟨by omega, by omega, h100, HND.out⟩, fun _ => rfl⟩, HB.out⟩
set_option maxHeartbeats 800000 in
theorem checkCpu_any (A : Option Addr) (n c : Nat) (Q : Nat → List Int) (S : Nat → Prop) (cpu : Int) (w : World) (hn : n ≤ c) (hc : c ≤ 9223372036854775807) (hR : RdLs w S A n Q) (hwf : WfQ Q n) :
    Calls Try.prog 57 #[.slice A n c, .int .i64 cpu] w (ChkS (OkLs Q n ∧ 0 ≤ cpu ∧ cpu < n) w) := by
  have H := Lib.hid (checkS_any A n c Q S w hn hc hR hwf)
  clear hR hwf
  by_cases ok : OkLs Q n
  · have HK := Lib.hid ok
    clear ok
    by_cases h0 : cpu < 0
    · have e0 : decide (cpu < 0) = true := by simpa using h0
      go_enter Try.func57, Try.ntmps57
      go_wp2_with fail
      refine H.out.mono ?_
      rintro e w1 ⟨x, rfl, hx, hb⟩
      obtain rfl : x = 0 := hx.2 HK.out
      clear hx
      go_wp2_with fail
      go_ret
      exact ⟨4, rfl, ⟨fun h => by omega, fun h => by omega⟩, hb⟩
    · have e0 : decide (cpu < 0) = false := by simpa using h0
      by_cases h1 : (n : Int) ≤ cpu
      · have e1 : decide ((n : Int) ≤ cpu) = true := by simpa using h1
        go_enter Try.func57, Try.ntmps57
        go_wp2_with fail
        refine H.out.mono ?_
        rintro e w1 ⟨x, rfl, hx, hb⟩
        obtain rfl : x = 0 := hx.2 HK.out
        clear hx
        go_wp2_with fail
        go_ret
        exact ⟨4, rfl, ⟨fun h => by omega, fun h => by omega⟩, hb⟩
      · have e1 : decide ((n : Int) ≤ cpu) = false := by simpa using h1
        go_enter Try.func57, Try.ntmps57
        go_wp2_with fail
        refine H.out.mono ?_
        rintro e w1 ⟨x, rfl, hx, hb⟩
        obtain rfl : x = 0 := hx.2 HK.out
        clear hx
        go_wp2_with fail
        go_ret
        exact ⟨0, rfl, ⟨fun _ => ⟨HK.out, by omega, by omega⟩, fun _ => rfl⟩, hb⟩
  · have HK := Lib.hid ok
    clear ok
    go_enter Try.func57, Try.ntmps57
    go_wp2_with fail
    refine H.out.mono ?_
    rintro e w1 ⟨x, rfl, hx, hb⟩
    have hx' : x ≠ 0 := fun h => HK.out (hx.1 h)
    have hx0 : (x != 0) = true := by simpa using hx'
    clear hx
    go_wp2_with fail
    go_ret
    exact ⟨x, rfl, ⟨fun h => absurd h hx', fun h => absurd h.1 HK.out⟩, hb⟩
end Go.Proofs.Ytjcegplockihfaa
