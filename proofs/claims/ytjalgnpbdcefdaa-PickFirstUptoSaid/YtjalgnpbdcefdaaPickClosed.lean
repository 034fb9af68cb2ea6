/- roadkeep3.depth, deepPat and closed. -/
import Derived.Test.YtjalgnpbdcefdaaPicks
namespace Go.Proofs.Ytjalgnpbdcefdaa
open Go.RowKit
set_option linter.unusedVariables false
/-- a pattern with any value for its names -/
def closedP : VT → VT
  | .none => .none
  | .node pk pm ps pn pa => if pk = 2 then .node 1 0 ⟨#[]⟩ 0 (fun _ => .none) else if pk = 6 then .node 6 0 ps pn (fun i => closedP (pa i)) else .node pk pm ps pn pa
theorem closed_node (pk pm : Int) (ps : ByteArray) (pn : Nat) (pa : Nat → VT) : closedP (.node pk pm ps pn pa) = if pk = 2 then .node 1 0 ⟨#[]⟩ 0 (fun _ => .none) else if pk = 6 then .node 6 0 ps pn (fun i => closedP (pa i)) else .node pk pm ps pn pa := rfl
theorem names_closed : ∀ p : VT, (closedP p).names = 0 := by
  intro p
  induction p with
  | none => rfl
  | node pk pm ps pn pa ih =>
    rw [closed_node]
    by_cases h2 : pk = 2
    · simp [h2, VT.names]
    · by_cases h6 : pk = 6
      · have h0 : ∀ k, sumTo (fun i => (closedP (pa i)).names) k = 0 := fun k => by
          induction k with
          | zero => rfl
          | succ k ihk =>
            show sumTo (fun i => (closedP (pa i)).names) k + (closedP (pa k)).names = 0
            rw [ihk, ih]
        rw [if_neg h2, if_pos h6]
        exact h0 pn
      · simp [h2, h6, VT.names]
theorem many_closed : ∀ p : VT, (closedP p).many ≤ p.many := by
  intro p
  induction p with
  | none => exact Nat.le_refl _
  | node pk pm ps pn pa ih =>
    rw [closed_node]
    by_cases h2 : pk = 2
    · simp [h2, VT.many, sumTo]
    · by_cases h6 : pk = 6
      · have := sumTo_le (n := pn) (fun i (_ : i < pn) => ih i)
        rw [if_neg h2, if_pos h6]
        simp only [VT.many]
        omega
      · simp [h2, h6]
theorem bindTo_some {f g : Nat → List VT → Option (List VT)} {n : Nat} (hf : ∀ i, i < n → ∀ o o' q, f i o = some o' → ∃ q', g i q = some q') : ∀ {o o' q}, bindTo f n o = some o' → ∃ q', bindTo g n q = some q' := by
  induction n with
  | zero => intro o o' q _; exact ⟨q, rfl⟩
  | succ n ih =>
    intro o o' q h
    simp only [bindTo] at h
    cases e : bindTo f n o with
    | none => rw [e] at h; cases h
    | some o1 =>
      rw [e] at h
      obtain ⟨q1, hq1⟩ := ih (fun i hi => hf i (by omega)) (q := q) e
      obtain ⟨q2, hq2⟩ := hf n (by omega) o1 o' q1 h
      exact ⟨q2, by simp only [bindTo, hq1, hq2]⟩
theorem bind_closed : ∀ (p v : VT) (o o' q : List VT), p.bind v o = some o' → ∃ q', (closedP p).bind v q = some q' := by
  intro p
  induction p with
  | none => intro v o o' q h; cases h
  | node pk pm ps pn pa ih =>
    intro v o o' q h
    rw [bind_node] at h
    rw [closed_node]
    by_cases h2 : pk = 2
    · subst h2
      exact ⟨q, by simp [bind_node]⟩
    · by_cases h6 : pk = 6
      · subst h6
        simp only [h2, if_false, if_true, show (6 : Int) ≠ 1 by omega] at h ⊢
        rw [bind_node]
        simp only [show (6 : Int) ≠ 2 by omega, if_false, if_true, show (6 : Int) ≠ 1 by omega] at h ⊢
        cases v with
        | none => cases h
        | node k m s n a =>
          dsimp only at h ⊢
          split at h
          · rename_i hc
            rw [if_pos hc]
            exact bindTo_some (fun i _ o o' q hh => ih i (a i) o o' q hh) h
          · cases h
      · simp only [h2, h6, if_false] at h ⊢
        rw [bind_node]
        simp only [h2, h6, if_false]
        by_cases h1 : pk = 1
        · exact ⟨q, by simp [h1]⟩
        · simp only [h1, if_false] at h ⊢
          split at h
          · rename_i hc
            exact ⟨q, by rw [if_pos hc]⟩
          · cases h
theorem hit_closed {p v : VT} (h : hitB p v = true) : hitB (closedP p) v = true := by
  unfold hitB at h ⊢
  obtain ⟨o, ho⟩ := Option.isSome_iff_exists.1 h
  obtain ⟨q', hq⟩ := bind_closed p v [] o [] ho
  rw [hq]; rfl
set_option maxRecDepth 100000 in
set_option maxHeartbeats 1000000 in
theorem depth_any : ∀ (t : VT) (cs : List Value) (S : Nat → Prop) (w : World), t.isV w S cs → t.many ≤ 4194304 →
    Calls Try.prog 33 #[.agg cs.toArray] w fun e w' => e = .returned (.int .i64 t.deep) ∧ Below w.heap.size w w' := by
  intro t
  induction t with
  | none => intro cs S w h; exact h.elim
  | node k m s n arg ih =>
    intro cs S w h hm
    have HV := Lib.hid h
    have IH := Lib.hid ih
    obtain ⟨A, c, rfl, hnc, hcm, hA, _⟩ := h
    have hn : n ≤ 4194304 := by
      by_cases h0 : 0 < n
      · obtain ⟨b, off, _, _, _, C, hC⟩ := isV_arg HV.out h0
        have h1 : n ≤ sumTo (fun i => (arg i).many) n := len_sumTo fun i hi => isV_many (hC i hi).1
        simp only [VT.many] at hm
        omega
      · omega
    have HM := Lib.hid hm
    have HD := Lib.hid (show (VT.node k m s n arg).deep = maxTo (fun i => (arg i).deep) n + 1 from rfl)
    have HDB := Lib.hid (show ∀ q, q ≤ n → maxTo (fun i => (arg i).deep) q ≤ 4194304 from fun q hq => by
      have h1 : maxTo (fun i => (arg i).deep) q ≤ sumTo (fun i => (arg i).many) q := maxTo_le q fun i => deep_many _
      have h2 : sumTo (fun i => (arg i).many) q ≤ sumTo (fun i => (arg i).many) n := sumTo_mono hq
      simp only [VT.many] at hm
      omega)
    have HMM := Lib.hid (show ∀ q, q < n → (arg q).many ≤ 4194304 from fun q hq => by
      have := le_sumTo (g := fun i => (arg i).many) hq
      simp only [VT.many] at hm
      omega)
    generalize (VT.node k m s n arg).deep = td at *
    clear hm ih hA
    go_enter Try.func33, Try.ntmps33
    go_wp2_with fail
    go_loopw [3, 5, 9] (fun a _ i wr => ∃ q : Nat, q ≤ n ∧ i = .int .i64 q ∧ a = .int .i64 (maxTo (fun i => (arg i).deep) q) ∧ Below w.heap.size w wr) (fun _ _ i _ => n - (intOf i).toNat)
    case atStart => exact ⟨0, Nat.zero_le _, rfl, rfl, (Below.refl _ _).alloc (Nat.le_refl _) _⟩
    case round =>
      obtain ⟨q, hq, rfl, rfl, hB⟩ := hrel
      by_cases hlt : q < n
      · obtain ⟨b, off, rfl, hb, hSb, C, hC⟩ := isV_arg HV.out (by omega)
        obtain ⟨hV, hcell⟩ := hC q hlt
        have hV' := Lib.hid (isV_frame (w' := wr) (S' := S) hB.size (fun b hs hlt => ⟨hs, hB.block b hlt⟩) hV)
        have hs2 : maxTo (fun i => (arg i).deep) (q + 1) = max (maxTo (fun i => (arg i).deep) q) (arg q).deep := rfl
        have HC := Lib.hid (IH.out q (C q) S)
        have HS2 := Lib.hid hs2
        have b4 := HDB.out q (by omega)
        have b5 := HDB.out (q + 1) (by omega)
        rw [hs2] at b5
        obtain ⟨dq, hdq⟩ : ∃ x, (arg q).deep = x := ⟨_, rfl⟩
        obtain ⟨Dq, hDq⟩ : ∃ x, maxTo (fun i => (arg i).deep) q = x := ⟨_, rfl⟩
        rw [hdq] at HC
        rw [hdq, hDq] at HS2 b5
        rw [hDq] at b4 ⊢
        have b3 : dq ≤ 4194304 := by omega
        obtain ⟨k', m', s', A', n', c', hCq⟩ := isV_cells hV
        rw [hCq] at HC hV' hcell
        have c0 : wr.cell? ⟨b, off + q * 4, none⟩ = some (.int .i64 k') := (hB.cell (p := ⟨b, _, none⟩) hb).trans (hcell 0 _ rfl)
        have c1 : wr.cell? ⟨b, off + q * 4 + 1, none⟩ = some (.int .i64 m') := (hB.cell (p := ⟨b, _, none⟩) hb).trans (hcell 1 _ rfl)
        have c2 : wr.cell? ⟨b, off + q * 4 + 2, none⟩ = some (.string s') := (hB.cell (p := ⟨b, _, none⟩) hb).trans (hcell 2 _ rfl)
        have c3 : wr.cell? ⟨b, off + q * 4 + 3, none⟩ = some (.slice A' n' c') := (hB.cell (p := ⟨b, _, none⟩) hb).trans (hcell 3 _ rfl)
        have hBs := hB.size
        have HMQ := Lib.hid (HMM.out q hlt)
        clear hV hC hcell hs2 hdq hDq hCq b5
        go_wp2_with fail
        refine (HC.out _ (isV_below hV'.out ((Below.refl _ _).alloc (Nat.le_refl _) _)) HMQ.out).mono ?_
        rintro e w1 ⟨rfl, hb1⟩
        have hB1 : Below w.heap.size w w1 := (hB.alloc hBs _).trans (hb1.mono (by simp; omega))
        clear hb1 c0 c1 c2 c3
        go_wp2_with fail
        go_roundw
        case rel =>
          refine ⟨q + 1, by omega, by go_num, ?_, hB1⟩
          rw [HS2.out]
          congr 1
          first | omega | (split <;> omega)
        case measure => simp [intOf]; omega
      · obtain rfl : q = n := by omega
        have hd1 := HDB.out q (by omega)
        generalize maxTo (fun i => (arg i).deep) q = D at *
        go_wp2_with fail
        go_ret
        refine ⟨?_, hB⟩
        rw [HD.out]
        rfl
def deepB (t : VT) : Bool := decide (60 < t.deep)
set_option maxRecDepth 100000 in
theorem deepPat_any (t : VT) (cs : List Value) (S : Nat → Prop) (w : World) (h : t.isV w S cs) (hm : t.many ≤ 4194304) :
    Calls Try.prog 8 #[.agg cs.toArray] w fun e w' => e = .returned (.bool (deepB t)) ∧ Below w.heap.size w w' := by
  have HC := Lib.hid (fun W hW => depth_any t cs S W hW hm)
  have HV := Lib.hid h
  have hd := deep_many t
  obtain ⟨k', m', s', A', n', c', rfl⟩ := isV_cells h
  have HF := Lib.hid (show deepB t = decide (60 < t.deep) from rfl)
  obtain ⟨D, hD⟩ : ∃ x, t.deep = x := ⟨_, rfl⟩
  rw [hD] at HC HF hd
  have hD2 : D ≤ 4194304 := by omega
  clear h hD hm hd
  go_enter Try.func8, Try.ntmps8
  go_wp2_with fail
  refine (HC.out _ (isV_below HV.out ((Below.refl _ _).alloc (Nat.le_refl _) _))).mono ?_
  rintro e w1 ⟨rfl, hb1⟩
  have HB1 := Lib.hid hb1
  clear hb1
  go_wp2_with fail
  go_ret
  refine ⟨ret_b ?_, ((Below.refl _ _).alloc (Nat.le_refl _) _).trans (HB1.out.mono (by simp))⟩
  rw [HF.out]
  simp
  omega
end Go.Proofs.Ytjalgnpbdcefdaa
