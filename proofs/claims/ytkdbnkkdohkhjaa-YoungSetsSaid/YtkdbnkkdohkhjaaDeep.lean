/- The contract of roadref3.Deep and of flat. -/
import Derived.Test.YtkdbnkkdohkhjaaVal
import Derived.WalkLawsBesides
namespace Go.Proofs.Ytkdbnkkdohkhjaa
open Go.RowKit
set_option linter.unusedVariables false
theorem ret_two {a b c d : Int} (h : a = b) (h' : c = d) : Ending.returned (.tuple #[.int .i64 a, .int .i64 c]) = .returned (.tuple #[.int .i64 b, .int .i64 d]) := by rw [h, h']
theorem sumTo_mono {g : Nat → Nat} {a b : Nat} (h : a ≤ b) : sumTo g a ≤ sumTo g b := by
  induction b with
  | zero => obtain rfl : a = 0 := by omega
            exact Nat.le_refl _
  | succ b ih =>
    by_cases e : a = b + 1
    · rw [e]; exact Nat.le_refl _
    · have := ih (by omega); simp only [sumTo]; omega
theorem maxTo_le {g h : Nat → Nat} (n : Nat) (hg : ∀ i, g i ≤ h i) : maxTo g n ≤ sumTo h n := by
  induction n with
  | zero => exact Nat.le_refl _
  | succ n ih => simp only [maxTo, sumTo]; have := hg n; omega
set_option maxRecDepth 100000 in
set_option maxHeartbeats 1000000 in
theorem deep_any : ∀ (t : VT) (cs : List Value) (S : Nat → Prop) (w : World), t.isV w S cs → t.many ≤ 4194304 →
    Calls Try.prog 69 #[.agg cs.toArray] w fun e w' => e = .returned (.tuple #[.int .i64 t.deep, .int .i64 t.many]) ∧ Below w.heap.size w w' := by
  intro t
  induction t with
  | none => intro cs S w h; exact h.elim
  | node k m s n arg ih =>
    intro cs S w h hm
    have HV := Lib.hid h
    have IH := Lib.hid ih
    obtain ⟨A, c, rfl, hnc, hcm, hA, _⟩ := h
    have hn : n ≤ 4194304 := by
      by_cases h0 : 0 < n
      · obtain ⟨b, off, _, _, _, C, hC⟩ := isV_arg HV.out h0
        have h1 : n ≤ sumTo (fun i => (arg i).many) n := len_sumTo fun i hi => isV_many (hC i hi).1
        simp only [VT.many] at hm
        omega
      · omega
    have HM := Lib.hid hm
    have HN := Lib.hid (show (VT.node k m s n arg).many = 1 + sumTo (fun i => (arg i).many) n from rfl)
    have HD := Lib.hid (show (VT.node k m s n arg).deep = maxTo (fun i => (arg i).deep) n + 1 from rfl)
    generalize (VT.node k m s n arg).many = tm at *
    generalize (VT.node k m s n arg).deep = td at *
    clear hm ih hA
    go_enter Try.func69, Try.ntmps69
    go_wp2_with fail
    go_loopw [4, 5, 7, 8, 9, 13] (fun a b _ _ _ i wr => ∃ q : Nat, q ≤ n ∧ i = .int .i64 q ∧ a = .int .i64 (maxTo (fun i => (arg i).deep) q) ∧ b = .int .i64 ((1 + sumTo (fun i => (arg i).many) q : Nat) : Int) ∧ Below w.heap.size w wr) (fun _ _ _ _ _ i _ => n - (intOf i).toNat)
    case atStart => exact ⟨0, Nat.zero_le _, rfl, rfl, rfl, (Below.refl _ _).alloc (Nat.le_refl _) _⟩
    case round =>
      obtain ⟨q, hq, rfl, rfl, rfl, hB⟩ := hrel
      by_cases hlt : q < n
      · obtain ⟨b, off, rfl, hb, hSb, C, hC⟩ := isV_arg HV.out (by omega)
        obtain ⟨hV, hcell⟩ := hC q hlt
        have hlen := isV_len hV
        have hV' := Lib.hid (isV_frame (w' := wr) (S' := S) hB.size (fun b hs hlt => ⟨hs, hB.block b hlt⟩) hV)
        have hle : sumTo (fun i => (arg i).many) (q + 1) ≤ sumTo (fun i => (arg i).many) n := sumTo_mono (by omega)
        have hs1 : sumTo (fun i => (arg i).many) (q + 1) = sumTo (fun i => (arg i).many) q + (arg q).many := rfl
        have hs2 : maxTo (fun i => (arg i).deep) (q + 1) = max (maxTo (fun i => (arg i).deep) q) (arg q).deep := rfl
        have hd1 : maxTo (fun i => (arg i).deep) q ≤ sumTo (fun i => (arg i).many) q := maxTo_le q fun i => deep_many _
        have hd2 := deep_many (arg q)
        have hm1 := HM.out
        rw [HN.out] at hm1
        have HC := Lib.hid (IH.out q (C q) S)
        have HS1 := Lib.hid hs1
        have HS2 := Lib.hid hs2
        obtain ⟨dq, hdq⟩ : ∃ x, (arg q).deep = x := ⟨_, rfl⟩
        obtain ⟨mq, hmq⟩ : ∃ x, (arg q).many = x := ⟨_, rfl⟩
        obtain ⟨Dq, hDq⟩ : ∃ x, maxTo (fun i => (arg i).deep) q = x := ⟨_, rfl⟩
        obtain ⟨Mq, hMq⟩ : ∃ x, sumTo (fun i => (arg i).many) q = x := ⟨_, rfl⟩
        rw [hdq, hmq] at HC
        rw [hmq, hMq] at hs1 HS1
        rw [hdq, hDq] at hs2 HS2
        rw [hDq, hMq] at hd1
        rw [hdq, hmq] at hd2
        rw [hDq, hMq]
        have b1 : mq ≤ 4194304 := by omega
        have b2 : Mq + mq ≤ 4194304 := by omega
        have b3 : dq ≤ 4194304 := by omega
        have b4 : Dq ≤ 4194304 := by omega
        obtain ⟨k', m', s', A', n', c', hCq⟩ := isV_cells hV
        rw [hCq] at HC hV' hcell
        have c0 : wr.cell? ⟨b, off + q * 4, none⟩ = some (.int .i64 k') := (hB.cell (p := ⟨b, _, none⟩) hb).trans (hcell 0 _ rfl)
        have c1 : wr.cell? ⟨b, off + q * 4 + 1, none⟩ = some (.int .i64 m') := (hB.cell (p := ⟨b, _, none⟩) hb).trans (hcell 1 _ rfl)
        have c2 : wr.cell? ⟨b, off + q * 4 + 2, none⟩ = some (.string s') := (hB.cell (p := ⟨b, _, none⟩) hb).trans (hcell 2 _ rfl)
        have c3 : wr.cell? ⟨b, off + q * 4 + 3, none⟩ = some (.slice A' n' c') := (hB.cell (p := ⟨b, _, none⟩) hb).trans (hcell 3 _ rfl)
        have hBs := hB.size
        clear hV hC hcell hs1 hs2 hle hm1 hlen hdq hmq hDq hMq hCq
        go_wp2_with fail
        refine (HC.out _ (isV_below hV'.out ((Below.refl _ _).alloc (Nat.le_refl _) _)) b1).mono ?_
        rintro e w1 ⟨rfl, hb1⟩
        have hB1 : Below w.heap.size w w1 := (hB.alloc hBs _).trans (hb1.mono (by simp; omega))
        clear hb1 c0 c1 c2 c3
        go_wp2_with fail
        go_roundw
        case rel =>
          refine ⟨q + 1, by omega, by go_num, ?_, ?_, hB1⟩
          · rw [HS2.out]
            congr 1
            split <;> omega
          · rw [HS1.out]
            congr 1
            omega
        case measure => simp [intOf]; omega
      · obtain rfl : q = n := by omega
        have hd1 : maxTo (fun i => (arg i).deep) q ≤ sumTo (fun i => (arg i).many) q := maxTo_le q fun i => deep_many _
        have hm1 := HM.out
        rw [HN.out] at hm1
        generalize maxTo (fun i => (arg i).deep) q = D at *
        generalize sumTo (fun i => (arg i).many) q = M at *
        go_wp2_with fail
        go_ret2
        exact ⟨by rw [HN.out, HD.out]; exact ret_two (by omega) rfl, hB⟩
def flatB (t : VT) : Bool := decide (t.deep ≤ 60 ∧ t.many ≤ 500)
set_option maxRecDepth 100000 in
set_option maxHeartbeats 400000 in
theorem flat_any (t : VT) (cs : List Value) (S : Nat → Prop) (w : World) (h : t.isV w S cs) (hm : t.many ≤ 4194304) :
    Calls Try.prog 45 #[.agg cs.toArray] w fun e w' => e = .returned (.bool (flatB t)) ∧ Below w.heap.size w w' := by
  have HC := Lib.hid (fun W hW => deep_any t cs S W hW hm)
  have HV := Lib.hid h
  have hd := deep_many t
  obtain ⟨k', m', s', A', n', c', rfl⟩ := isV_cells h
  obtain ⟨D, hD⟩ : ∃ x, t.deep = x := ⟨_, rfl⟩
  obtain ⟨M, hM⟩ : ∃ x, t.many = x := ⟨_, rfl⟩
  have HF := Lib.hid (show flatB t = decide (D ≤ 60 ∧ M ≤ 500) by unfold flatB; rw [hD, hM])
  rw [HF.out]
  rw [hD, hM] at HC
  rw [hM] at hm
  rw [hD, hM] at hd
  clear h hD hM HF
  by_cases h1 : D ≤ 60
  · by_cases h2 : M ≤ 500
    · have e : decide (D ≤ 60 ∧ M ≤ 500) = true := by simp; omega
      rw [e]
      have d1 : decide ((D : Int) ≤ 60) = true := by simp; omega
      have d2 : decide ((M : Int) ≤ 500) = true := by simp; omega
      clear e
      go_enter Try.func45, Try.ntmps45
      go_wp2_with fail
      refine (HC.out _ (isV_below HV.out ((Below.refl _ _).alloc (Nat.le_refl _) _))).mono ?_
      rintro e w1 ⟨rfl, hb1⟩
      go_wp2_with fail
      go_ret
      exact ⟨rfl, ((Below.refl _ _).alloc (Nat.le_refl _) _).trans (hb1.mono (by simp))⟩
    · have e : decide (D ≤ 60 ∧ M ≤ 500) = false := by simp; omega
      rw [e]
      have d1 : decide ((D : Int) ≤ 60) = true := by simp; omega
      have d2 : decide ((M : Int) ≤ 500) = false := by simp; omega
      clear e
      go_enter Try.func45, Try.ntmps45
      go_wp2_with fail
      refine (HC.out _ (isV_below HV.out ((Below.refl _ _).alloc (Nat.le_refl _) _))).mono ?_
      rintro e w1 ⟨rfl, hb1⟩
      go_wp2_with fail
      go_ret
      exact ⟨rfl, ((Below.refl _ _).alloc (Nat.le_refl _) _).trans (hb1.mono (by simp))⟩
  · have e : decide (D ≤ 60 ∧ M ≤ 500) = false := by simp; omega
    rw [e]
    have d1 : decide ((D : Int) ≤ 60) = false := by simp; omega
    clear e
    go_enter Try.func45, Try.ntmps45
    go_wp2_with fail
    refine (HC.out _ (isV_below HV.out ((Below.refl _ _).alloc (Nat.le_refl _) _))).mono ?_
    rintro e w1 ⟨rfl, hb1⟩
    go_wp2_with fail
    go_ret
    exact ⟨rfl, ((Below.refl _ _).alloc (Nat.le_refl _) _).trans (hb1.mono (by simp))⟩
end Go.Proofs.Ytkdbnkkdohkhjaa
