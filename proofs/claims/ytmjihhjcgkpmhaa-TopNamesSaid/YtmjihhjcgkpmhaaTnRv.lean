/- rvCluster without pumps. -/
import Derived.Test.YtmjihhjcgkpmhaaTnSpC
import Derived.Test.YtmjihhjcgkpmhaaTnNewW
namespace Go.Proofs.Ytmjihhjcgkpmhaa
open Go.RowKit Go.Maps
set_option linter.unusedVariables false
theorem CS.toCl {w : World} {p mh N : Nat} {va vb : Value} {na nb mb tb L : Nat → Nat} {D : DataW Value} (H : CS w p mh N N va vb na nb mb tb L D) (h1 : 1 ≤ N) (h8 : N ≤ 8) : ∃ A ca b1 cb, ClAt w p N A ca b1 cb tb mb (fun _ => 0) (fun _ _ => none) := by
  obtain ⟨A, ca, rfl, -, -, -⟩ := own_any H.ra
  obtain ⟨b1, cb, hv, -, hbl, -⟩ := own_form H.rb (by omega)
  have c1 := H.c1
  have rb := H.rb
  have gb := H.gb
  subst hv
  refine ⟨A, ca, b1, cb, h8, H.c0, c1, fun i hi => ?_, fun i hi => H.nm i hi, fun i hi => OkT.none, fun i hi j hj e => ?_, fun i hi j hj e => ?_, fun i hi j hj e => ?_, fun i hi => ⟨?_, ?_⟩, fun i hi => ⟨?_, ?_⟩⟩
  · rw [World.ownsRow.cellAt rb i (by omega)]
    exact ptrs_get tb hi
  · rcases Nat.lt_trichotomy i j with h | h | h
    · exact absurd e ((H.sep hi hj).2 (by omega)).2.2.2.2.2.2.2
    · exact h
    · exact absurd e ((H.sep hi hj).2 (by omega)).2.2.2.2.2.2.2
  · rcases Nat.lt_trichotomy i j with h | h | h
    · exact absurd e ((H.sep hi hj).2 (by omega)).2.2.2.2.1
    · exact h
    · exact absurd e ((H.sep hi hj).2 (by omega)).2.2.2.2.1
  · by_cases h : i = j
    · subst h
      exact (H.nm i hi).ne e
    · exact ((H.sep hi hj).2 h).2.2.2.2.2.2.1 e
  · have := H.gt hi; omega
  · exact ((gb b1 rfl i hi).2.2.2).symm
  · have := H.gt hi; omega
  · exact ((gb b1 rfl i hi).2.2.1).symm
def RvPost (N : Nat) (w : World) (e : Ending) (w' : World) : Prop := ∃ p A ca b1 cb tb mb, e = .returned (.tuple #[.pointer (some ⟨p, 0, none⟩), .slice none 0 0, .bool true]) ∧ ClAt w' p N A ca b1 cb tb mb (fun _ => 0) (fun _ _ => none) ∧ Below w.heap.size w w' ∧ ∀ i, i < N → w.heap.size ≤ tb i ∧ w.heap.size ≤ mb i
set_option maxRecDepth 100000 in
set_option maxHeartbeats 4000000 in
theorem rv_any (N : Nat) (w : World) (h1 : 1 ≤ N) (h8 : N ≤ 8) : Calls Try.prog 5 #[.int .i64 (N : Int), .slice none 0 0] w (RvPost N w) := by
  go_enter Try.func5, Try.ntmps5
  go_wp2_with fail
  refine (new_any N w h1 h8).mono ?_
  rintro e w1 ⟨p, me, mh, va, vb, na, nb, mb, tb, L, rfl, hme, hmh, hCB, hb⟩
  have HC := Lib.hid hCB.toCS
  have HB := Lib.hid hb
  have HG := Lib.hid (show w.heap.size ≤ mh ∧ ∀ i, i < N → w.heap.size ≤ na i ∧ w.heap.size ≤ nb i ∧ w.heap.size ≤ mb i ∧ w.heap.size ≤ tb i from ⟨hmh, fun i hi => by have := hCB.toCS.gt hi; have := hCB.mp.2.1; omega⟩)
  clear hCB hb hme hmh
  go_wp2_with fail
  go_loopw [9] (fun x wr => ∃ (i : Nat) (D : DataW Value), i ≤ N ∧ x = .int .i64 ((i : Int) + 1) ∧ CS wr p mh N i va vb na nb mb tb L D ∧ Below w.heap.size w wr) (fun x _ => N + 1 - (intOf x).toNat)
  case atStart => exact ⟨0, _, by omega, rfl, HC.out, HB.out⟩
  case round =>
    obtain ⟨i, D, hiN, rfl, hC, hB⟩ := hrel
    have HCi := Lib.hid hC
    have HBi := Lib.hid hB
    clear hC hB
    by_cases hi : i < N
    · have hd : decide ((i : Int) + 1 ≤ (N : Int)) = true := decide_eq_true (by omega)
      go_wp2_with fail
      refine (cspawn_any p mh N i va vb na nb mb tb L D wr HCi.out hi h8).mono ?_
      rintro e w2 ⟨rfl, ⟨D', hC'⟩, hf⟩
      have HCn := Lib.hid hC'
      have HBn := Lib.hid (show Below w.heap.size w w2 from HBi.out.trans (hf.below (fun x hx => by
        have g := HG.out.2 i hi
        have g1 := HG.out.1
        rcases hx with (h | h) | h <;> omega) HBi.out.size))
      clear hC' hf
      go_wp2_with fail
      exact ⟨⟨i + 1, D', by omega, by go_num, HCn.out, HBn.out⟩, by simp [intOf]; omega⟩
    · have hd : decide ((i : Int) + 1 ≤ (N : Int)) = false := decide_eq_false (by omega)
      obtain rfl : i = N := by omega
      go_wp2_with fail
      go_loopw [12, 58] (fun v x wx => v = .slice none 0 0 ∧ x = .int .i64 0 ∧ wx = wr) (fun _ _ _ => 0)
      case atStart => exact ⟨rfl, rfl, rfl⟩
      case round =>
        obtain ⟨rfl, rfl, rfl⟩ := hrel
        obtain ⟨A, ca, b1, cb, hCl⟩ := HCi.out.toCl h1 h8
        have HCl := Lib.hid hCl
        clear hCl
        go_wp2_with fail
        go_ret3
        exact ⟨p, A, ca, b1, cb, tb, mb, rfl, HCl.out, HBi.out, fun k hk => ⟨(HG.out.2 k hk).2.2.2, (HG.out.2 k hk).2.2.1⟩⟩
end Go.Proofs.Ytmjihhjcgkpmhaa
