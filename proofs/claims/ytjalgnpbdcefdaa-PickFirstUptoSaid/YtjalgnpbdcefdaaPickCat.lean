/- slices.Concat over letters. -/
import Derived.Test.YtjalgnpbdcefdaaPickUse
import Derived.Lib.AppendZeros
namespace Go.Proofs.Ytjalgnpbdcefdaa
open Go.RowKit
set_option linter.unusedVariables false
def zeroLV : Value := .agg #[.int .i64 0, .int .i64 0, .int .i64 0, .int .i64 0, .string ⟨#[]⟩, .int .i64 0, .int .i64 0, .string ⟨#[]⟩, .slice none 0 0]
theorem growL_run (w : World) (ty : TypeId) (n : Nat) (h0 : 0 < n) (hn : n ≤ 1000000) : ∃ cap w', (Builtin.append_ #[36, 3] ty #[.slice none 0 0, .int .i64 n]).run Try.prog w = .ok (.slice (some ⟨w.heap.size, 0, none⟩) n cap) w' ∧ n ≤ cap ∧
    w'.ownsRow w.heap.size 44 9 (.slice (some ⟨w.heap.size, 0, none⟩) 0 cap) 0 [] ∧ Below w.heap.size w w' := by
  obtain ⟨i0, hi, hz0, hz1, hz2⟩ := info_parts infoL
  have hle := grownCap_ge w n 0 44
  have hr := Lib.run_append_nil_zeros (P := Try.prog) w 36 3 ty 44 i0 zeroLV .i64 .i64 Try.underlying36 Try.underlying3 hi hz0 n h0 (by omega) (by omega) (by rw [hz2]; omega)
  refine ⟨_, _, hr, hle, World.ownsRow_made w.drew _ _ (Nat.le_refl _) ?_ ?_, ((Below.refl _ _).drew).alloc (Nat.le_refl _) _⟩
  · exact grownCap_le_maxLen w n 0 44 (by unfold maxLen; omega)
  · rw [Array.size_append, size_zeroCells, size_zeroCells, show zeroLV.cells.size = 9 from rfl]; omega
def GrowPost (w : World) (e : Ending) (w' : World) : Prop := ∃ v, e = .returned v ∧ w'.ownsRow w.heap.size 44 9 v 0 [] ∧ Below w.heap.size w w'
set_option maxHeartbeats 800000 in
theorem growL_any (n : Nat) (w : World) (hn : n ≤ 1000000) : Calls Try.prog 47 #[.slice none 0 0, .int .i64 n] w (GrowPost w) := by
  by_cases h0 : 0 < n
  · have e0 : decide ((n : Int) < 0) = false := by simp
    have e1 : decide ((0 : Int) < (n : Int)) = true := by simp; omega
    obtain ⟨cap, w1, hr, hcap, hown, hb⟩ := growL_run w 36 n h0 hn
    have HO := Lib.hid hown
    have HB := Lib.hid hb
    have HR := Lib.hid hr
    clear hown hb hr
    go_enter Try.func47, Try.ntmps47
    go_wp2_with (at_builtin; refine Lib.wpList_append_run _ rfl _ _ _ _ rfl _ _ rfl rfl _ _ HR.out ?_)
    go_ret
    exact ⟨_, rfl, HO.out, HB.out⟩
  · obtain rfl : n = 0 := by omega
    go_enter Try.func47, Try.ntmps47
    go_wp2_with fail
    go_ret
    exact ⟨_, rfl, World.ownsRow_nil _ _ _ _, Below.refl _ _⟩
theorem appendL_none (w : World) (ty : TypeId) (base : Nat) (v : Value) (n : Nat) (xs : List Value) (hown : w.ownsRow base 44 9 v n xs) (qc : Nat) : (Builtin.append_ #[36, 36] ty #[v, .slice none 0 qc]).run Try.prog w = .ok v w := by
  obtain ⟨i0, hi, hz0, hz1, hz2⟩ := info_parts infoL
  rcases hown.2 with ⟨rfl, rfl⟩ | ⟨g, cap, cur, rfl, _, _, hnc, _⟩
  · simp [Builtin.append_, run_underlying Try.underlying36, sizeOf, typeInfo, hi, Builtin.lenOf, Builtin.firstCells]
  · simp [Builtin.append_, run_underlying Try.underlying36, sizeOf, typeInfo, hi, Builtin.lenOf, Builtin.firstCells, hnc, storeCells]
/-- a slice of slices of letters -/
def RdLL (w : World) (S : Nat → Prop) (A : Option Addr) (k : Nat) (N : Nat → Nat) (G : Nat → LT) : Prop := 0 < k → ∃ b off, A = some ⟨b, off, none⟩ ∧ b < w.heap.size ∧ ∀ i, i < k → ∃ qA qc, w.cell? ⟨b, off + i, none⟩ = some (.slice qA (N i) qc) ∧ (qA = none → N i = 0) ∧ RdL w S qA (N i) (fun j => G (sumTo N i + j))
/-- a row of letters of the call's own, in older blocks -/
structure CRow (w : World) (B : Nat) (v : Value) (m : Nat) (C : Nat → List Value) (G : Nat → LT) (S : Nat → Prop) : Prop where
  row : w.ownsRow B 44 9 v m (flatC C m)
  len : ∀ j, (C j).length = 9
  each : ∀ j, j < m → (G j).isL w (fun b => S b ∧ b < B) (C j)
theorem flatC_two (C D : Nat → List Value) (m n : Nat) : flatC C m ++ flatC D n = flatC (fun j => if j < m then C j else D (j - m)) (m + n) := by
  induction n with
  | zero =>
    rw [Nat.add_zero, flatC, List.append_nil]
    exact flatC_congr fun i hi => by simp [hi]
  | succ n ih =>
    rw [flatC, ← List.append_assoc, ih, ← Nat.add_assoc, flatC]
    congr 1
    rw [if_neg (by omega), Nat.add_sub_cancel_left]
/-- the cells of a slice of letters, in one list -/
theorem rdL_cells {w : World} {S : Nat → Prop} {qa : Addr} {n : Nat} {G : Nat → LT} (h : RdL w S (some qa) n G) : ∃ D : Nat → List Value, (∀ j, (D j).length = 9) ∧ (∀ j, j < n → (G j).isL w S (D j)) ∧ ∀ j u, (flatC D n)[j]? = some u → w.cell? (qa.add j) = some u := by
  by_cases h0 : 0 < n
  · obtain ⟨b, off, hA, hb, hSb, C, hC⟩ := h h0
    injection hA with hA
    subst hA
    have hlen : ∀ j, (if j < n then C j else List.replicate 9 undef).length = 9 := fun j => by
      split
      · rename_i hj; exact isL_len (hC j hj).1
      · simp
    refine ⟨fun j => if j < n then C j else List.replicate 9 undef, hlen, fun j hj => by simp only [hj, if_true]; exact (hC j hj).1, fun j u hu => ?_⟩
    have hj : j < n * 9 := by
      rcases Nat.lt_or_ge j (n * 9) with hh | hh
      · exact hh
      · rw [List.getElem?_eq_none (by rw [flatC_length hlen]; exact hh)] at hu; cases hu
    have h3 := flatC_get (g := fun j => if j < n then C j else List.replicate 9 undef) (sz := 9) hlen (n := n) (k := j / 9) (j := j % 9) (by omega) (by omega)
    rw [Nat.div_add_mod'] at h3
    rw [h3] at hu
    simp only [show j / 9 < n by omega, if_true] at hu
    have := (hC (j / 9) (by omega)).2 (j % 9) u hu
    rw [show off + j / 9 * 9 + j % 9 = off + j by omega] at this
    rw [Go.WideShapes.add_plain]
    exact this
  · obtain rfl : n = 0 := by omega
    exact ⟨fun _ => List.replicate 9 undef, fun _ => by simp, fun j hj => by omega, fun j u hu => by simp [flatC] at hu⟩
theorem CRow.more {w w' : World} {B m n : Nat} {v v' : Value} {C D : Nat → List Value} {G : Nat → LT} {S : Nat → Prop} (h : CRow w B v m C G S) (hl : ∀ j, (D j).length = 9) (hD : ∀ j, j < n → (G (m + j)).isL w (fun b => S b ∧ b < B) (D j)) (hg : w.grownBy w' v.ownBlock)
    (hO : w'.ownsRow B 44 9 v' (m + n) (flatC C m ++ flatC D n)) : CRow w' B v' (m + n) (fun j => if j < m then C j else D (j - m)) G S := by
  have hno : ∀ b, b < B → some b ≠ v.ownBlock := fun b hb e => by have := (h.row.lt b e.symm).1; omega
  refine ⟨by rw [← flatC_two]; exact hO, fun j => ?_, fun j hj => ?_⟩
  · split
    · exact h.len j
    · exact hl _
  · by_cases hjm : j < m
    · simp only [hjm, if_true]
      exact isL_grown (h.each j hjm) hg (fun b hb _ => ⟨hno b hb.2, hb⟩)
    · simp only [hjm, if_false]
      have := hD (j - m) (by omega)
      rw [show m + (j - m) = j by omega] at this
      exact isL_grown this hg (fun b hb _ => ⟨hno b hb.2, hb⟩)
theorem CRow.rd {w : World} {B m c : Nat} {A : Option Addr} {C : Nat → List Value} {G : Nat → LT} {S : Nat → Prop} (h : CRow w B (.slice A m c) m C G S) : RdL w (fun b => S b ∨ B ≤ b) A m G := fun h0 => by
  obtain ⟨g, cap, hv, hb, hlt, _⟩ := own_form h.row h0
  injection hv with e1 e2 e3
  subst e1 e3
  exact ⟨g, 0, rfl, hlt, .inr hb, C, fun i hi => ⟨isL_frame (Nat.le_refl _) (fun b hs _ => ⟨.inl hs.1, rfl⟩) (h.each i hi), fun j u hu => by
    have hj : j < 9 := by
      rcases Nat.lt_or_ge j 9 with hh | hh
      · exact hh
      · rw [List.getElem?_eq_none (by rw [h.len]; exact hh)] at hu; cases hu
    rw [Nat.zero_add, own_cellC h.row h.len hi hj]
    exact hu⟩⟩
def CatPost (m : Nat) (G : Nat → LT) (S : Nat → Prop) (w : World) (e : Ending) (w' : World) : Prop :=
  ∃ A c, e = .returned (.slice A m c) ∧ m ≤ c ∧ c ≤ 9223372036854775807 ∧ RdL w' (fun b => S b ∨ w.heap.size ≤ b) A m G ∧ Below w.heap.size w w'
set_option maxRecDepth 100000 in
set_option maxHeartbeats 4000000 in
theorem concatL_any (A : Option Addr) (k c : Nat) (N : Nat → Nat) (G : Nat → LT) (S : Nat → Prop) (w : World) (hn : k ≤ c) (hc : c ≤ 9223372036854775807) (hR : RdLL w S A k N G) (hl : sumTo N k ≤ 1000000) :
    Calls Try.prog 30 #[.slice A k c] w (CatPost (sumTo N k) G S w) := by
  obtain ⟨i0, hi, hz0, hz1, hz2⟩ := info_parts infoL
  have HR := Lib.hid hR
  have HL := Lib.hid hl
  clear hR hl
  go_enter Try.func30, Try.ntmps30
  go_wp2_with fail
  go_loop [3, 5, 11] (fun t _ x => ∃ i : Nat, i ≤ k ∧ x = .int .i64 i ∧ t = .int .i64 (sumTo N i : Nat)) (fun _ _ x => k - (intOf x).toNat)
  case atStart => exact ⟨0, Nat.zero_le _, rfl, rfl⟩
  case round =>
    obtain ⟨i, hin, rfl, rfl⟩ := hrel
    by_cases hlt : i < k
    · obtain ⟨b, off, rfl, hb, hcell⟩ := HR.out (by omega)
      obtain ⟨qA, qc, c0, h5, h6⟩ := hcell i hlt
      have hcl : sumTo N (i + 1) = sumTo N i + N i := rfl
      have hle : sumTo N (i + 1) ≤ sumTo N k := sumTo_mono (by omega)
      have hml := HL.out
      have e1 : decide (((sumTo N i : Nat) : Int) + ((N i : Nat) : Int) < 0) = false := by simp; omega
      have HCL := Lib.hid hcl
      have hs1 : sumTo N i ≤ 1000000 := by omega
      have hs2 : N i ≤ 1000000 := by omega
      clear hcell h5 h6 hcl hle hml
      go_wp2_with fail
      go_round
      case rel => exact ⟨i + 1, by omega, by go_num, by rw [HCL.out]; go_num⟩
      case measure => simp [intOf]; omega
    · obtain rfl : k = i := by omega
      have hml := HL.out
      go_wp2_with fail
      refine (growL_any _ _ HL.out).mono ?_
      rintro e w1 ⟨v1, rfl, hown1, hb1⟩
      have HO1 := Lib.hid hown1
      have HB1 := Lib.hid hb1
      clear hown1 hb1
      go_wp2_with fail
      go_loopw [6, 8, 27] (fun o _ x wr => ∃ (i : Nat) (v : Value) (C : Nat → List Value), i ≤ k ∧ x = .int .i64 i ∧ v = o ∧ CRow wr w.heap.size v (sumTo N i) C G S ∧ Below w.heap.size w wr) (fun _ _ x _ => k - (intOf x).toNat)
      case atStart => exact ⟨0, _, fun _ => List.replicate 9 undef, Nat.zero_le _, rfl, rfl, ⟨HO1.out, fun _ => by simp, fun j hj => by simp [sumTo] at hj⟩, HB1.out⟩
      case round =>
        obtain ⟨i, v, C, hin, rfl, rfl, hO, hB⟩ := hrel
        have HO := Lib.hid hO
        have HB := Lib.hid hB
        have hBs := hB.size
        obtain ⟨Ao, co, rfl, hnco, hcmo, _⟩ := own_any hO.row
        by_cases hlt : i < k
        · obtain ⟨b, off, rfl, hb, hcell⟩ := HR.out (by omega)
          obtain ⟨qA, qc, h1, h4, h5⟩ := hcell i hlt
          have c0 : wr.cell? ⟨b, off + i, none⟩ = some (.slice qA (N i) qc) := (hB.cell (p := ⟨b, _, none⟩) hb).trans h1
          have hcl : sumTo N (i + 1) = sumTo N i + N i := rfl
          have hle : sumTo N (i + 1) ≤ sumTo N k := sumTo_mono (by omega)
          have HQ := Lib.hid (show RdL wr (fun b => S b ∧ b < w.heap.size) qA (N i) (fun j => G (sumTo N i + j)) from h5.frame hB.size (fun b hs hl => ⟨⟨hs, hl⟩, hB.block b hl⟩))
          have H4 := Lib.hid h4
          have HCL := Lib.hid hcl
          have HLC := Lib.hid (show sumTo N i + N i ≤ 1000000 by omega)
          clear hO hB hcell h1 h4 h5 hcl hle
          cases qA with
          | none =>
            have hz : N i = 0 := H4.out rfl
            have HZ := Lib.hid hz
            rw [hz] at c0
            have HAN := Lib.hid (appendL_none wr 36 w.heap.size _ _ _ HO.out.row qc)
            clear hz
            go_wp2_with (at_builtin; refine Lib.wpList_append_run _ rfl _ _ _ _ rfl _ _ rfl rfl _ _ HAN.out ?_)
            refine ⟨⟨i + 1, _, C, by omega, by go_num, rfl, ?_, HB.out⟩, by simp [intOf]; omega⟩
            rw [HCL.out, HZ.out]
            exact HO.out
          | some qa =>
            obtain ⟨D, hDl, hDv, hDc⟩ := rdL_cells HQ.out
            have HDL := Lib.hid hDl
            have HDV := Lib.hid hDv
            have HDC := Lib.hid hDc
            have HDlen := Lib.hid (flatC_length hDl (N i))
            have HD1 := Lib.hid (show ∀ u ∈ flatC D (N i), u.oneCell' = true from fun u hu => by
              obtain ⟨k, hk, hm⟩ := flatC_mem hu
              exact isL_one (hDv k hk) u hm)
            clear hDl hDv hDc
            go_wp2_with (at_builtin; go_loud (refine wpList_append_own_at _ rfl _ _ 36 rfl w.heap.size 44 i0 _ 9 104 Try.underlying36 hi hz0 hz1 hz2 rfl (by omega) (.slice Ao (sumTo N i) co) (sumTo N i) (flatC C (sumTo N i)) rfl HO.out.row qa (N i) qc (flatC D (N i)) rfl HDlen.out HDC.out HD1.out (by have := HLC.out; unfold maxLen; omega) (by have := HLC.out; omega) hBs ?_; intro v2 w2 hown2 hgrow2 _ _; have HO2 := Lib.hid hown2; have HG2 := Lib.hid hgrow2; clear hown2 hgrow2))
            refine ⟨⟨i + 1, v2, _, by omega, by go_num, rfl, HO.out.more HDL.out HDV.out HG2.out HO2.out, ?_⟩, by simp [intOf]; omega⟩
            exact below_grown HB.out hBs HG2.out (fun k hk => (HO.out.row.lt k hk).1)
        · obtain rfl : k = i := by omega
          clear hO hB
          go_wp2_with fail
          go_ret
          exact ⟨Ao, co, rfl, hnco, hcmo, HO.out.rd, HB.out⟩
end Go.Proofs.Ytjalgnpbdcefdaa
