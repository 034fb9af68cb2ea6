/- The contracts of slices.Grow of nil and of slices.Concat, over ints. -/
import Derived.Test.YtjcegplockihfaaStealPop
import Derived.Lib.AppendZeros
namespace Go.Proofs.Ytjcegplockihfaa
open Go.RowKit
set_option linter.unusedVariables false
theorem grow_run (w : World) (ty : TypeId) (n : Nat) (h0 : 0 < n) (hn : n ≤ 1000000) : ∃ cap w', (Builtin.append_ #[52, 3] ty #[.slice none 0 0, .int .i64 n]).run Try.prog w = .ok (.slice (some ⟨w.heap.size, 0, none⟩) n cap) w' ∧ n ≤ cap ∧
    w'.ownsRow w.heap.size 3 1 (.slice (some ⟨w.heap.size, 0, none⟩) 0 cap) 0 [] ∧ Below w.heap.size w w' := by
  obtain ⟨i0, hi, hz0, hz1, hz2⟩ := info_parts infoI
  have hle := grownCap_ge w n 0 3
  have hr := Lib.run_append_nil_zeros (P := Try.prog) w 52 3 ty 3 i0 (.int .i64 0) .i64 .i64 Try.underlying52 Try.underlying3 hi hz0 n h0 (by omega) (by omega) (by rw [hz2]; omega)
  refine ⟨_, _, hr, hle, World.ownsRow_made w.drew _ _ (Nat.le_refl _) ?_ ?_, ((Below.refl _ _).drew).alloc (Nat.le_refl _) _⟩
  · exact grownCap_le_maxLen w n 0 3 (by unfold maxLen; omega)
  · rw [Array.size_append, size_zeroCells, size_zeroCells, show (Value.int IntKind.i64 0).cells.size = 1 from rfl]; omega
def GrowPost (w : World) (e : Ending) (w' : World) : Prop := ∃ v, e = .returned v ∧ w'.ownsRow w.heap.size 3 1 v 0 [] ∧ Below w.heap.size w w'
set_option maxHeartbeats 800000 in
theorem growI_any (n : Nat) (w : World) (hn : n ≤ 1000000) : Calls Try.prog 60 #[.slice none 0 0, .int .i64 n] w (GrowPost w) := by
  by_cases h0 : 0 < n
  · have e0 : decide ((n : Int) < 0) = false := by simp
    have e1 : decide ((0 : Int) < (n : Int)) = true := by simp; omega
    obtain ⟨cap, w1, hr, hcap, hown, hb⟩ := grow_run w 52 n h0 hn
    have HO := Lib.hid hown
    have HB := Lib.hid hb
    have HR := Lib.hid hr
    clear hown hb hr
    go_enter Try.func60, Try.ntmps60
    go_wp2_with (at_builtin; refine Lib.wpList_append_run _ rfl _ _ _ _ rfl _ _ rfl rfl _ _ HR.out ?_)
    go_ret
    exact ⟨_, rfl, HO.out, HB.out⟩
  · obtain rfl : n = 0 := by omega
    go_enter Try.func60, Try.ntmps60
    go_wp2_with fail
    go_ret
    exact ⟨_, rfl, World.ownsRow_nil _ _ _ _, Below.refl _ _⟩
def CatPost (l : List Int) (w : World) (e : Ending) (w' : World) : Prop := ∃ v, e = .returned v ∧ OwnI w' w.heap.size v l ∧ Below w.heap.size w w'
theorem catTo_le (Q : Nat → List Int) {i k : Nat} (h : i ≤ k) : (catTo Q i).length ≤ (catTo Q k).length := by
  obtain ⟨m, hm⟩ := catTo_mono Q h
  rw [hm, List.length_append]; omega
theorem encI_append (a b : List Int) : encI (a ++ b) = encI a ++ encI b := by simp [encI]
theorem encI_one (l : List Int) : ∀ u ∈ encI l, u.oneCell' = true := by
  intro u hu
  simp [encI] at hu
  obtain ⟨a, _, rfl⟩ := hu
  rfl
theorem append_none (w : World) (ty : TypeId) (base : Nat) (v : Value) (n : Nat) (xs : List Value) (hown : w.ownsRow base 3 1 v n xs) (qc : Nat) : (Builtin.append_ #[52, 52] ty #[v, .slice none 0 qc]).run Try.prog w = .ok v w := by
  obtain ⟨i0, hi, hz0, hz1, hz2⟩ := info_parts infoI
  rcases hown.2 with ⟨rfl, rfl⟩ | ⟨g, cap, cur, rfl, _, _, hnc, _⟩
  · simp [Builtin.append_, run_underlying Try.underlying52, sizeOf, typeInfo, hi, Builtin.lenOf, Builtin.firstCells]
  · simp [Builtin.append_, run_underlying Try.underlying52, sizeOf, typeInfo, hi, Builtin.lenOf, Builtin.firstCells, hnc, storeCells]
set_option maxRecDepth 100000 in
set_option maxHeartbeats 2000000 in
theorem concat_any (A : Option Addr) (n c : Nat) (Q : Nat → List Int) (S : Nat → Prop) (w : World) (hn : n ≤ c) (hc : c ≤ 9223372036854775807) (hR : RdLs w S A n Q) (hl : (catTo Q n).length ≤ 1000000) :
    Calls Try.prog 42 #[.slice A n c] w (CatPost (catTo Q n) w) := by
  obtain ⟨i0, hi, hz0, hz1, hz2⟩ := info_parts infoI
  have HR := Lib.hid hR
  have HL := Lib.hid hl
  clear hR hl
  go_enter Try.func42, Try.ntmps42
  go_wp2_with fail
  go_loop [3, 5, 11] (fun t _ x => ∃ i : Nat, i ≤ n ∧ x = .int .i64 i ∧ t = .int .i64 (catTo Q i).length) (fun _ _ x => n - (intOf x).toNat)
  case atStart => exact ⟨0, Nat.zero_le _, rfl, rfl⟩
  case round =>
    obtain ⟨i, hin, rfl, rfl⟩ := hrel
    by_cases hlt : i < n
    · obtain ⟨b, off, rfl, hb, hSb, hcell⟩ := HR.out (by omega)
      obtain ⟨qA, qc, c0, h2, h3, h4, h5⟩ := hcell i hlt
      have hcl : (catTo Q (i + 1)).length = (catTo Q i).length + (Q i).length := by rw [catTo, List.length_append]
      have hle := catTo_le Q (show i + 1 ≤ n by omega)
      have hml := HL.out
      have e1 : decide (((catTo Q i).length : Int) + ((Q i).length : Int) < 0) = false := by simp; omega
      have HCL := Lib.hid hcl
      have hs1 : (catTo Q i).length ≤ 1000000 := by omega
      have hs2 : (Q i).length ≤ 1000000 := by omega
      clear hcell h5 h4 hcl hle hml
      go_wp2_with fail
      go_round
      case rel => exact ⟨i + 1, by omega, by go_num, by rw [HCL.out]; go_num⟩
      case measure => simp [intOf]; omega
    · obtain rfl : n = i := by omega
      have hml := HL.out
      go_wp2_with fail
      refine (growI_any _ _ HL.out).mono ?_
      rintro e w1 ⟨v1, rfl, hown1, hb1⟩
      have HO1 := Lib.hid hown1
      have HB1 := Lib.hid hb1
      clear hown1 hb1
      go_wp2_with fail
      go_loopw [6, 8, 27] (fun o _ x wr => ∃ (i : Nat) (v : Value), i ≤ n ∧ x = .int .i64 i ∧ v = o ∧ OwnI wr w.heap.size v (catTo Q i) ∧ Below w.heap.size w wr) (fun _ _ x _ => n - (intOf x).toNat)
      case atStart => exact ⟨0, _, Nat.zero_le _, rfl, rfl, HO1.out, HB1.out⟩
      case round =>
        obtain ⟨i, v, hin, rfl, rfl, hO, hB⟩ := hrel
        have HO := Lib.hid hO
        have HB := Lib.hid hB
        have hBs := hB.size
        obtain ⟨Ao, co, rfl, hnco, hcmo, _⟩ := own_any hO
        by_cases hlt : i < n
        · obtain ⟨b, off, rfl, hb, hSb, hcell⟩ := HR.out (by omega)
          obtain ⟨qA, qc, h1, h2, h3, h4, h5⟩ := hcell i hlt
          have c0 : wr.cell? ⟨b, off + i, none⟩ = some (.slice qA (Q i).length qc) := (hB.cell (p := ⟨b, _, none⟩) hb).trans h1
          have hcl : (catTo Q (i + 1)).length = (catTo Q i).length + (Q i).length := by rw [catTo, List.length_append]
          have hle := catTo_le Q (show i + 1 ≤ n by omega)
          have HQ := Lib.hid ((h5.below hB).rd)
          have H4 := Lib.hid h4
          have HLC := Lib.hid (show (catTo Q i).length + (Q i).length ≤ 1000000 by omega)
          clear hO hB hcell h1 h5 h4 hcl hle
          cases qA with
          | none =>
            have hz : (Q i).length = 0 := H4.out rfl
            have HAN := Lib.hid (append_none wr 52 w.heap.size _ _ _ HO.out qc)
            go_wp2_with (at_builtin; refine Lib.wpList_append_run _ rfl _ _ _ _ rfl _ _ rfl rfl _ _ HAN.out ?_)
            refine ⟨⟨i + 1, _, by omega, by go_num, rfl, ?_, HB.out⟩, by simp [intOf]; omega⟩
            rw [catTo, List.eq_nil_of_length_eq_zero hz, List.append_nil]
            exact HO.out
          | some qa =>
            have HQ2 := Lib.hid (show ∀ j u, (encI (Q i))[j]? = some u → wr.cell? (qa.add j) = some u from fun j u hu => by
              have hj : j < (Q i).length := by
                rcases Nat.lt_or_ge j (Q i).length with hh | hh
                · exact hh
                · rw [List.getElem?_eq_none (by simp [encI]; exact hh)] at hu; cases hu
              obtain ⟨b1, o1, hA, _, hc1⟩ := HQ.out (by omega)
              injection hA with hA
              subst hA
              rw [Go.WideShapes.add_plain]
              have := hc1 j hj 0 _ rfl
              simp [encI, hj] at hu
              simp [lst, hj] at this
              rw [this, hu])
            go_wp2_with (at_builtin; go_loud (refine wpList_append_own_at _ rfl _ _ 52 rfl w.heap.size 3 i0 _ 1 8 Try.underlying52 hi hz0 hz1 hz2 rfl (by omega) (.slice Ao (catTo Q i).length co) (catTo Q i).length (encI (catTo Q i)) rfl HO.out qa (Q i).length qc (encI (Q i)) rfl (by simp [encI]) HQ2.out (encI_one _) (by have := HLC.out; unfold maxLen; omega) (by have := HLC.out; omega) hBs ?_; intro v2 w2 hown2 hgrow2 _ _; have HO2 := Lib.hid hown2; have HG2 := Lib.hid hgrow2; clear hown2 hgrow2))
            refine ⟨⟨i + 1, v2, by omega, by go_num, rfl, ?_, ?_⟩, by simp [intOf]; omega⟩
            · unfold OwnI
              rw [catTo, List.length_append, encI_append]
              exact HO2.out
            · exact below_grown HB.out hBs HG2.out (fun k hk => (HO.out.blk k hk).1)
        · obtain rfl : n = i := by omega
          clear hO hB
          go_wp2_with fail
          go_ret
          exact ⟨_, rfl, HO.out, HB.out⟩
end Go.Proofs.Ytjcegplockihfaa
