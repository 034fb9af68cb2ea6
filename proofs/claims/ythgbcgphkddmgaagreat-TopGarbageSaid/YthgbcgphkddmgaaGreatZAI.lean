/- The contract of slices.Concat over ints. A slice of numbers as an argument; two equal rows. What actors know, and who is let go, as arguments. -/
import Derived.Test.YthgbcgphkddmgaaGreatZAD
import Derived.IntWalk
import Derived.Lib.AppendZeros
import Derived.Test.YthgbcgphkddmgaaGreatZAE
import Derived.SizedLaws
import Derived.Test.YthgbcgphkddmgaaGreatZAC
namespace Go.Proofs.YthgbcgphkddmgaaGreat
open Go.RowKit
set_option linter.unusedVariables false
/-- the numbers l, read through a slice whose block lies in S -/
def RdI (w : World) (S : Nat → Prop) (A : Option Addr) (l : List Int) : Prop :=
  0 < l.length → ∃ b off, A = some ⟨b, off, none⟩ ∧ b < w.heap.size ∧ S b ∧ ∀ j, j < l.length → w.cell? ⟨b, off + j, none⟩ = some (.int .i64 (lst l j))
/-- the lines Q, read through a slice whose blocks lie in S -/
def RdLs (w : World) (S : Nat → Prop) (A : Option Addr) (n : Nat) (Q : Nat → List Int) : Prop :=
  0 < n → ∃ b off, A = some ⟨b, off, none⟩ ∧ b < w.heap.size ∧ S b ∧ ∀ i, i < n → ∃ (qA : Option Addr) (qc : Nat), w.cell? ⟨b, off + i, none⟩ = some (.slice qA (Q i).length qc) ∧ (Q i).length ≤ qc ∧ qc ≤ 9223372036854775807 ∧ (qA = none → (Q i).length = 0) ∧ RdI w S qA (Q i)
theorem RdI.frame {w w' : World} {S S' : Nat → Prop} {A : Option Addr} {l : List Int} (h : RdI w S A l) (hsz : w.heap.size ≤ w'.heap.size) (hS : ∀ b, S b → b < w.heap.size → S' b ∧ w'.heap[b]? = w.heap[b]?) : RdI w' S' A l := fun h0 => by
  obtain ⟨b, off, hA, hb, hs, hc⟩ := h h0
  obtain ⟨s1, s2⟩ := hS b hs hb
  exact ⟨b, off, hA, by omega, s1, fun j hj => (World.cell?_of_block (a := ⟨b, _, none⟩) s2).trans (hc j hj)⟩
theorem RdLs.frame {w w' : World} {S S' : Nat → Prop} {A : Option Addr} {n : Nat} {Q : Nat → List Int} (h : RdLs w S A n Q) (hsz : w.heap.size ≤ w'.heap.size) (hS : ∀ b, S b → b < w.heap.size → S' b ∧ w'.heap[b]? = w.heap[b]?) : RdLs w' S' A n Q := fun h0 => by
  obtain ⟨b, off, hA, hb, hs, hc⟩ := h h0
  obtain ⟨s1, s2⟩ := hS b hs hb
  refine ⟨b, off, hA, by omega, s1, fun i hi => ?_⟩
  obtain ⟨qA, qc, h1, h2, h3, h4, h5⟩ := hc i hi
  exact ⟨qA, qc, (World.cell?_of_block (a := ⟨b, _, none⟩) s2).trans h1, h2, h3, h4, h5.frame hsz hS⟩
theorem RdI.below {w w' : World} {S : Nat → Prop} {A : Option Addr} {l : List Int} (h : RdI w S A l) (hb : Below w.heap.size w w') : RdI w' S A l := h.frame hb.size (fun b hs hlt => ⟨hs, hb.block b hlt⟩)
theorem RdLs.below {w w' : World} {S : Nat → Prop} {A : Option Addr} {n : Nat} {Q : Nat → List Int} (h : RdLs w S A n Q) (hb : Below w.heap.size w w') : RdLs w' S A n Q := h.frame hb.size (fun b hs hlt => ⟨hs, hb.block b hlt⟩)
theorem RdI.rd {w : World} {S : Nat → Prop} {A : Option Addr} {l : List Int} (h : RdI w S A l) : Rd w 1 (tmC (lst l)) A l.length := fun h0 => by
  obtain ⟨b, off, hA, hb, _, hc⟩ := h h0
  refine ⟨b, off, hA, hb, fun k hk j u hu => ?_⟩
  match j, hu with
  | 0, hu =>
    simp [tmC] at hu
    subst hu
    rw [Nat.mul_one, Nat.add_zero]
    exact hc k hk
/-- the tasks of the first i lines -/
def catTo (Q : Nat → List Int) : Nat → List Int
  | 0 => []
  | i + 1 => catTo Q i ++ Q i
theorem catTo_mono (Q : Nat → List Int) {i k : Nat} (h : i ≤ k) : ∃ m, catTo Q k = catTo Q i ++ m := by
  induction k with
  | zero => obtain rfl : i = 0 := by omega
            exact ⟨[], by simp⟩
  | succ k ih =>
    by_cases e : i = k + 1
    · subst e; exact ⟨[], by simp⟩
    · obtain ⟨m, hm⟩ := ih (by omega)
      exact ⟨m ++ Q k, by rw [catTo, hm, List.append_assoc]⟩
theorem grow_run (w : World) (ty : TypeId) (n : Nat) (h0 : 0 < n) (hn : n ≤ 1000000) : ∃ cap w', (Builtin.append_ #[31, 3] ty #[.slice none 0 0, .int .i64 n]).run Tryz.prog w = .ok (.slice (some ⟨w.heap.size, 0, none⟩) n cap) w' ∧ n ≤ cap ∧
    w'.ownsRow w.heap.size 3 1 (.slice (some ⟨w.heap.size, 0, none⟩) 0 cap) 0 [] ∧ Below w.heap.size w w' := by
  obtain ⟨i0, hi, hz0, hz1, hz2⟩ := info_parts infoI
  have hle := grownCap_ge w n 0 3
  have hr := Lib.run_append_nil_zeros (P := Tryz.prog) w 31 3 ty 3 i0 (.int .i64 0) .i64 .i64 Tryz.underlying31 Tryz.underlying3 hi hz0 n h0 (by omega) (by omega) (by rw [hz2]; omega)
  refine ⟨_, _, hr, hle, World.ownsRow_made w.drew _ _ (Nat.le_refl _) ?_ ?_, ((Below.refl _ _).drew).alloc (Nat.le_refl _) _⟩
  · exact grownCap_le_maxLen w n 0 3 (by unfold maxLen; omega)
  · rw [Array.size_append, size_zeroCells, size_zeroCells, show (Value.int IntKind.i64 0).cells.size = 1 from rfl]; omega
def GrowPost (w : World) (e : Ending) (w' : World) : Prop := ∃ v, e = .returned v ∧ w'.ownsRow w.heap.size 3 1 v 0 [] ∧ Below w.heap.size w w'
set_option maxHeartbeats 800000 in
theorem growI_any (n : Nat) (w : World) (hn : n ≤ 1000000) : Calls Tryz.prog 177 #[.slice none 0 0, .int .i64 n] w (GrowPost w) := by
  by_cases h0 : 0 < n
  · have e0 : decide ((n : Int) < 0) = false := by simp
    have e1 : decide ((0 : Int) < (n : Int)) = true := by simp; omega
    obtain ⟨cap, w1, hr, hcap, hown, hb⟩ := grow_run w 31 n h0 hn
    have HO := Lib.hid hown
    have HB := Lib.hid hb
    have HR := Lib.hid hr
    clear hown hb hr
    go_enter Tryz.func177, Tryz.ntmps177
    go_wp2_with (at_builtin; refine Lib.wpList_append_run _ rfl _ _ _ _ rfl _ _ rfl rfl _ _ HR.out ?_)
    go_ret
    exact ⟨_, rfl, HO.out, HB.out⟩
  · obtain rfl : n = 0 := by omega
    go_enter Tryz.func177, Tryz.ntmps177
    go_wp2_with fail
    go_ret
    exact ⟨_, rfl, World.ownsRow_nil _ _ _ _, Below.refl _ _⟩
def CatPost (l : List Int) (w : World) (e : Ending) (w' : World) : Prop := ∃ v, e = .returned v ∧ OwnI w' w.heap.size v l ∧ Below w.heap.size w w'
theorem catTo_le (Q : Nat → List Int) {i k : Nat} (h : i ≤ k) : (catTo Q i).length ≤ (catTo Q k).length := by
  obtain ⟨m, hm⟩ := catTo_mono Q h
  rw [hm, List.length_append]; omega
theorem encI_append (a b : List Int) : encI (a ++ b) = encI a ++ encI b := by simp [encI]
theorem encI_one (l : List Int) : ∀ u ∈ encI l, u.oneCell' = true := by
  intro u hu
  simp [encI] at hu
  obtain ⟨a, _, rfl⟩ := hu
  rfl
theorem append_none (w : World) (ty : TypeId) (base : Nat) (v : Value) (n : Nat) (xs : List Value) (hown : w.ownsRow base 3 1 v n xs) (qc : Nat) : (Builtin.append_ #[31, 31] ty #[v, .slice none 0 qc]).run Tryz.prog w = .ok v w := by
  obtain ⟨i0, hi, hz0, hz1, hz2⟩ := info_parts infoI
  rcases hown.2 with ⟨rfl, rfl⟩ | ⟨g, cap, cur, rfl, _, _, hnc, _⟩
  · simp [Builtin.append_, run_underlying Tryz.underlying31, sizeOf, typeInfo, hi, Builtin.lenOf, Builtin.firstCells]
  · simp [Builtin.append_, run_underlying Tryz.underlying31, sizeOf, typeInfo, hi, Builtin.lenOf, Builtin.firstCells, hnc, storeCells]
set_option maxRecDepth 100000 in
set_option maxHeartbeats 2000000 in
theorem concat_any (A : Option Addr) (n c : Nat) (Q : Nat → List Int) (S : Nat → Prop) (w : World) (hn : n ≤ c) (hc : c ≤ 9223372036854775807) (hR : RdLs w S A n Q) (hl : (catTo Q n).length ≤ 1000000) :
    Calls Tryz.prog 139 #[.slice A n c] w (CatPost (catTo Q n) w) := by
  obtain ⟨i0, hi, hz0, hz1, hz2⟩ := info_parts infoI
  have HR := Lib.hid hR
  have HL := Lib.hid hl
  clear hR hl
  go_enter Tryz.func139, Tryz.ntmps139
  go_wp2_with fail
  go_loop [3, 5, 11] (fun t _ x => ∃ i : Nat, i ≤ n ∧ x = .int .i64 i ∧ t = .int .i64 (catTo Q i).length) (fun _ _ x => n - (intOf x).toNat)
  case atStart => exact ⟨0, Nat.zero_le _, rfl, rfl⟩
  case round =>
    obtain ⟨i, hin, rfl, rfl⟩ := hrel
    by_cases hlt : i < n
    · obtain ⟨b, off, rfl, hb, hSb, hcell⟩ := HR.out (by omega)
      obtain ⟨qA, qc, c0, h2, h3, h4, h5⟩ := hcell i hlt
      have hcl : (catTo Q (i + 1)).length = (catTo Q i).length + (Q i).length := by rw [catTo, List.length_append]
      have hle := catTo_le Q (show i + 1 ≤ n by omega)
      have hml := HL.out
      have e1 : decide (((catTo Q i).length : Int) + ((Q i).length : Int) < 0) = false := by simp; omega
      have HCL := Lib.hid hcl
      have hs1 : (catTo Q i).length ≤ 1000000 := by omega
      have hs2 : (Q i).length ≤ 1000000 := by omega
      clear hcell h5 h4 hcl hle hml
      go_wp2_with fail
      go_round
      case rel => exact ⟨i + 1, by omega, by go_num, by rw [HCL.out]; go_num⟩
      case measure => simp [intOf]; omega
    · obtain rfl : n = i := by omega
      have hml := HL.out
      go_wp2_with fail
      refine (growI_any _ _ HL.out).mono ?_
      rintro e w1 ⟨v1, rfl, hown1, hb1⟩
      have HO1 := Lib.hid hown1
      have HB1 := Lib.hid hb1
      clear hown1 hb1
      go_wp2_with fail
      go_loopw [6, 8, 27] (fun o _ x wr => ∃ (i : Nat) (v : Value), i ≤ n ∧ x = .int .i64 i ∧ v = o ∧ OwnI wr w.heap.size v (catTo Q i) ∧ Below w.heap.size w wr) (fun _ _ x _ => n - (intOf x).toNat)
      case atStart => exact ⟨0, _, Nat.zero_le _, rfl, rfl, HO1.out, HB1.out⟩
      case round =>
        obtain ⟨i, v, hin, rfl, rfl, hO, hB⟩ := hrel
        have HO := Lib.hid hO
        have HB := Lib.hid hB
        have hBs := hB.size
        obtain ⟨Ao, co, rfl, hnco, hcmo, _⟩ := own_any hO
        by_cases hlt : i < n
        · obtain ⟨b, off, rfl, hb, hSb, hcell⟩ := HR.out (by omega)
          obtain ⟨qA, qc, h1, h2, h3, h4, h5⟩ := hcell i hlt
          have c0 : wr.cell? ⟨b, off + i, none⟩ = some (.slice qA (Q i).length qc) := (hB.cell (p := ⟨b, _, none⟩) hb).trans h1
          have hcl : (catTo Q (i + 1)).length = (catTo Q i).length + (Q i).length := by rw [catTo, List.length_append]
          have hle := catTo_le Q (show i + 1 ≤ n by omega)
          have HQ := Lib.hid ((h5.below hB).rd)
          have H4 := Lib.hid h4
          have HLC := Lib.hid (show (catTo Q i).length + (Q i).length ≤ 1000000 by omega)
          clear hO hB hcell h1 h5 h4 hcl hle
          cases qA with
          | none =>
            have hz : (Q i).length = 0 := H4.out rfl
            have HAN := Lib.hid (append_none wr 31 w.heap.size _ _ _ HO.out qc)
            go_wp2_with (at_builtin; refine Lib.wpList_append_run _ rfl _ _ _ _ rfl _ _ rfl rfl _ _ HAN.out ?_)
            refine ⟨⟨i + 1, _, by omega, by go_num, rfl, ?_, HB.out⟩, by simp [intOf]; omega⟩
            rw [catTo, List.eq_nil_of_length_eq_zero hz, List.append_nil]
            exact HO.out
          | some qa =>
            have HQ2 := Lib.hid (show ∀ j u, (encI (Q i))[j]? = some u → wr.cell? (qa.add j) = some u from fun j u hu => by
              have hj : j < (Q i).length := by
                rcases Nat.lt_or_ge j (Q i).length with hh | hh
                · exact hh
                · rw [List.getElem?_eq_none (by simp [encI]; exact hh)] at hu; cases hu
              obtain ⟨b1, o1, hA, _, hc1⟩ := HQ.out (by omega)
              injection hA with hA
              subst hA
              rw [Go.WideShapes.add_plain]
              have := hc1 j hj 0 _ rfl
              simp [encI, hj] at hu
              simp [lst, hj] at this
              rw [this, hu])
            go_wp2_with (at_builtin; go_loud (refine wpList_append_own_at _ rfl _ _ 31 rfl w.heap.size 3 i0 _ 1 8 Tryz.underlying31 hi hz0 hz1 hz2 rfl (by omega) (.slice Ao (catTo Q i).length co) (catTo Q i).length (encI (catTo Q i)) rfl HO.out qa (Q i).length qc (encI (Q i)) rfl (by simp [encI]) HQ2.out (encI_one _) (by have := HLC.out; unfold maxLen; omega) (by have := HLC.out; omega) hBs ?_; intro v2 w2 hown2 hgrow2 _ _; have HO2 := Lib.hid hown2; have HG2 := Lib.hid hgrow2; clear hown2 hgrow2))
            refine ⟨⟨i + 1, v2, by omega, by go_num, rfl, ?_, ?_⟩, by simp [intOf]; omega⟩
            · unfold OwnI
              rw [catTo, List.length_append, encI_append]
              exact HO2.out
            · exact below_grown HB.out hBs HG2.out (fun k hk => (HO.out.blk k hk).1)
        · obtain rfl : n = i := by omega
          clear hO hB
          go_wp2_with fail
          go_ret
          exact ⟨_, rfl, HO.out, HB.out⟩
end Go.Proofs.YthgbcgphkddmgaaGreat
namespace Go.Proofs.YthgbcgphkddmgaaGreat
open Go.RowKit Go.ChangeShapes Go.WideShapes Go.Deep
set_option linter.unusedVariables false
set_option maxRecDepth 100000 in
theorem open_intsW {H : Type} {enc : TypeId × Value → H} {W : World} {base : Nat} {v : Value} {d : DataW H} {p : List MemPlace} (k0 : Value.okWide Tryz.prog W .any base 31 v) (h0 : DataW.Trod enc Tryz.prog W 0 (fun _ => true) true 31 v d p) :
    ∃ A n c T, v = .slice A n c ∧ n ≤ c ∧ c ≤ 9223372036854775807 ∧ (A = none → n = 0) ∧ Rd W 1 (tmC T) A n ∧ ∀ i, i < n → (Lit.int .i64 (T i)).wf = true := by
  obtain ⟨a0, l0, cp0, rfl⟩ := okWide_slice Tryz.underlying31 k0
  obtain ⟨fuel, hf⟩ := h0
  obtain ⟨A, n, c, C, hcs, hnc, hcm, hA, hR, hlen, hel⟩ := open_rows Tryz.underlying31 (by kernel_rfl) (sz := 1) (by omega) hf
  have hv : Value.slice a0 l0 cp0 = .slice A n c := by simpa [Value.cells] using hcs
  have hvi : ∀ j, ∃ z : Int, j < n → C j = [.int .i64 z] ∧ (Lit.int .i64 z).wf = true := fun j => by
    by_cases hj : j < n
    · obtain ⟨m2, q2, hy2⟩ := hel j hj
      obtain ⟨z, e, _, hw⟩ := DataW.trod_int Tryz.underlying3 hy2
      exact ⟨z, fun _ => ⟨e, hw⟩⟩
    · exact ⟨0, fun h => absurd h hj⟩
  obtain ⟨Z, hZ⟩ := Classical.axiomOfChoice hvi
  exact ⟨A, n, c, Z, hv, hnc, hcm, hA, hR.congr fun k hk => by unfold tmC; rw [(hZ k hk).1], fun i hi => (hZ i hi).2⟩
theorem equalI_same (A B : Option Addr) (n m c d : Nat) (T U : Nat → Int) (w : World) (hnm : n = m) (hn : n ≤ 9223372036854775807) (hT : Rd w 1 (tmC T) A n) (hU : Rd w 1 (tmC U) B m) (he : ∀ k, k < n → T k = U k) :
    Calls Tryz.prog 17 #[.slice A n c, .slice B m d] w fun e w' => e = .returned (.bool true) ∧ Below w.heap.size w w' := by
  subst hnm
  refine (equalI_any A B n c n d T U w hn hn hT hU).mono ?_
  rintro e w' ⟨rfl, q, rfl⟩
  refine ⟨ret_bool ?_, below_drewN (Below.refl _ _) _⟩
  rw [anyOf_false.2 (fun j hj => by simp [he j hj])]
  simp
end Go.Proofs.YthgbcgphkddmgaaGreat
namespace Go.Proofs.YthgbcgphkddmgaaGreat
open Go.RowKit Go.ChangeShapes Go.WideShapes Go.Deep
set_option linter.unusedVariables false
set_option maxRecDepth 100000 in
theorem open_knows {H : Type} {enc : TypeId × Value → H} {W : World} {base : Nat} {v : Value} {d : DataW H} {p : List MemPlace} (k0 : Value.okWide Tryz.prog W .any base 22 v) (h0 : DataW.Trod enc Tryz.prog W 0 (fun _ => true) true 22 v d p) :
    ∃ A n c Q, v = .slice A n c ∧ n ≤ c ∧ c ≤ 9223372036854775807 ∧ (A = none → n = 0) ∧ RdLs W (fun _ => True) A n Q ∧ ∀ i, i < n → ∀ x, x ∈ Q i → Wf x := by
  obtain ⟨a0, l0, cp0, rfl⟩ := okWide_slice Tryz.underlying22 k0
  obtain ⟨fuel, hf⟩ := h0
  obtain ⟨A, n, c, C, hcs, hnc, hcm, hA, hR, hlen, hel⟩ := open_rows Tryz.underlying22 (by kernel_rfl) (sz := 1) (by omega) hf
  have hv : Value.slice a0 l0 cp0 = .slice A n c := by simpa [Value.cells] using hcs
  have hall : ∀ i, ∃ q : List Int, i < n → (∃ qA qc, C i = [.slice qA q.length qc] ∧ q.length ≤ qc ∧ qc ≤ 9223372036854775807 ∧ (qA = none → q.length = 0) ∧ RdI W (fun _ => True) qA q) ∧ ∀ x ∈ q, Wf x := fun i => by
    by_cases hi : i < n
    · obtain ⟨m, q, hy⟩ := hel i hi
      obtain ⟨qA, qn, qc, C2, hcs2, hnc2, hcm2, hA2, hR2, hlen2, hel2⟩ := open_rows Tryz.underlying31 (by kernel_rfl) (sz := 1) (by omega) hy
      have hvi : ∀ j, ∃ z : Int, j < qn → C2 j = [.int .i64 z] ∧ Wf z := fun j => by
        by_cases hj : j < qn
        · obtain ⟨m2, q2, hy2⟩ := hel2 j hj
          obtain ⟨z, e, _, hw⟩ := DataW.trod_int Tryz.underlying3 hy2
          exact ⟨z, fun _ => ⟨e, hw⟩⟩
        · exact ⟨0, fun h => absurd h hj⟩
      obtain ⟨Z, hZ⟩ := Classical.axiomOfChoice hvi
      have hl : ((List.range qn).map Z).length = qn := by simp
      refine ⟨(List.range qn).map Z, fun _ => ⟨⟨qA, qc, ?_, by omega, hcm2, fun h => by rw [hl]; exact hA2 h, fun h1 => ?_⟩, fun x hx => ?_⟩⟩
      · rw [hl]; exact hcs2
      · rw [hl] at h1 ⊢
        obtain ⟨b, off, e1, e2, e3⟩ := hR2 h1
        refine ⟨b, off, e1, e2, trivial, fun j hj => ?_⟩
        have := e3 j hj 0 (.int .i64 (Z j)) (by rw [(hZ j hj).1]; rfl)
        simpa [lst, hj] using this
      · obtain ⟨j, hj, rfl⟩ := List.mem_map.1 hx
        exact (hZ j (List.mem_range.1 hj)).2
    · exact ⟨[], fun h => absurd h hi⟩
  obtain ⟨Q, hQ⟩ := Classical.axiomOfChoice hall
  refine ⟨A, n, c, Q, hv, hnc, hcm, hA, fun h1 => ?_, fun i hi => (hQ i hi).2⟩
  obtain ⟨b, off, e1, e2, e3⟩ := hR h1
  refine ⟨b, off, e1, e2, trivial, fun i hi => ?_⟩
  obtain ⟨qA, qc, h2, h3⟩ := (hQ i hi).1
  have := e3 i hi 0 (.slice qA (Q i).length qc) (by rw [h2]; rfl)
  exact ⟨qA, qc, by simpa using this, h3⟩
/-- a slice of truth values -/
def RdB (w : World) (A : Option Addr) (n : Nat) (F : Nat → Bool) : Prop := 0 < n → ∃ b off, A = some ⟨b, off, none⟩ ∧ b < w.heap.size ∧ ∀ i, i < n → w.cell? ⟨b, off + i, none⟩ = some (.bool (F i))
set_option maxRecDepth 100000 in
theorem open_frees {H : Type} {enc : TypeId × Value → H} {W : World} {base : Nat} {v : Value} {d : DataW H} {p : List MemPlace} (k0 : Value.okWide Tryz.prog W .any base 23 v) (h0 : DataW.Trod enc Tryz.prog W 0 (fun _ => true) true 23 v d p) :
    ∃ A n c F, v = .slice A n c ∧ n ≤ c ∧ c ≤ 9223372036854775807 ∧ RdB W A n F := by
  obtain ⟨a0, l0, cp0, rfl⟩ := okWide_slice Tryz.underlying23 k0
  obtain ⟨fuel, hf⟩ := h0
  obtain ⟨A, n, c, C, hcs, hnc, hcm, hA, hR, hlen, hel⟩ := open_rows Tryz.underlying23 (by kernel_rfl) (sz := 1) (by omega) hf
  have hv : Value.slice a0 l0 cp0 = .slice A n c := by simpa [Value.cells] using hcs
  have hvi : ∀ j, ∃ z : Bool, j < n → C j = [.bool z] := fun j => by
    by_cases hj : j < n
    · obtain ⟨m2, q2, hy2⟩ := hel j hj
      obtain ⟨z, e, _⟩ := DataW.trod_bool Tryz.underlying4 hy2
      exact ⟨z, fun _ => e⟩
    · exact ⟨false, fun h => absurd h hj⟩
  obtain ⟨Z, hZ⟩ := Classical.axiomOfChoice hvi
  refine ⟨A, n, c, Z, hv, hnc, hcm, fun h1 => ?_⟩
  obtain ⟨b, off, e1, e2, e3⟩ := hR h1
  refine ⟨b, off, e1, e2, fun i hi => ?_⟩
  have := e3 i hi 0 (.bool (Z i)) (by rw [hZ i hi]; rfl)
  simpa using this
end Go.Proofs.YthgbcgphkddmgaaGreat
