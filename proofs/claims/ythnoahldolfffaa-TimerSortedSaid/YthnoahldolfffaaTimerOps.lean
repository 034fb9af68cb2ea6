/- Rows of timers: Equal, SameDues and SameTimers over equal rows; Concat; the closed fact timers. -/
import Derived.Test.YthnoahldolfffaaTimerGo
import Derived.Lib.AppendZeros
namespace Go.Proofs.Ythnoahldolfffaa
open Go.RowKit
set_option linter.unusedVariables false
theorem Sd.rd {w : World} {A : Option Addr} {n c : Nat} {l : List Du} (h : Sd w (.slice A n c) l) : Rd w 2 (duC (nthD l)) A l.length := by
  obtain ⟨A', c', e, _, _, _, h⟩ := h
  injection e with e1 _ _
  subst e1
  exact h
theorem Sd.cap {w : World} {A : Option Addr} {n c : Nat} {l : List Du} (h : Sd w (.slice A n c) l) : l.length ≤ c ∧ c ≤ 9223372036854775807 := by
  obtain ⟨A', c', e, h1, h2, _, _⟩ := h
  injection e with _ _ e3
  subst e3
  exact ⟨h1, h2⟩
theorem Sd.none {w : World} {A : Option Addr} {n c : Nat} {l : List Du} (h : Sd w (.slice A n c) l) : A = none → l.length = 0 := by
  obtain ⟨A', c', e, _, _, h3, _⟩ := h
  injection e with e1 _ _
  subst e1
  exact h3
set_option maxHeartbeats 1000000 in
theorem equalD_same (A B : Option Addr) (c d : Nat) (l : List Du) (w : World) (hR : Sd w (.slice A l.length c) l) (hS : Sd w (.slice B l.length d) l) :
    Calls Try.prog 17 #[.slice A l.length c, .slice B l.length d] w fun e w' => e = .returned (.bool true) ∧ Below w.heap.size w w' := by
  have HR := Lib.hid (Sd.rd hR)
  have HS := Lib.hid (Sd.rd hS)
  obtain ⟨k1, k2⟩ := Sd.cap hR
  clear hR hS
  go_enter Try.func17, Try.ntmps17
  go_wp2_with fail
  go_loopw [5, 13] (fun _ x wr => ∃ k : Nat, k ≤ l.length ∧ x = .int .i64 k ∧ Below w.heap.size w wr) (fun _ x _ => l.length - (intOf x).toNat)
  case atStart => exact ⟨0, by omega, rfl, Below.refl _ _⟩
  case round =>
    obtain ⟨k, hk, rfl, hB⟩ := hrel
    have HB := Lib.hid hB
    by_cases hlt : k < l.length
    · obtain ⟨b, off, rfl, hb0, hcell⟩ := (HR.out.below hB) (by omega)
      obtain ⟨b', off', rfl, hb0', hcell'⟩ := (HS.out.below hB) (by omega)
      have c0 := hcell k hlt 0 _ rfl
      have c1 := hcell k hlt 1 _ rfl
      have e0 := hcell' k hlt 0 _ rfl
      have e1 := hcell' k hlt 1 _ rfl
      simp only [Nat.add_zero] at c0 e0
      clear hcell hcell' hB
      generalize nthD l k = r at *
      obtain ⟨r1, r2⟩ := r
      dsimp only at c0 c1 e0 e1
      have i1 : (0 : Int) ≤ (k : Int) := by omega
      have i2 : (k : Int) < (l.length : Int) := by omega
      go_wp2_with fail
      go_quiet (fail)
      go_wp2_with fail
      go_roundw
      case rel => exact ⟨k + 1, by omega, by go_num, below_drewN HB.out _⟩
      case measure => simp [intOf]; omega
    · obtain rfl : k = l.length := by omega
      go_wp2_with fail
      go_ret
      exact ⟨rfl, HB.out⟩
set_option maxHeartbeats 1000000 in
theorem sameDs_same (A B : Option Addr) (c d : Nat) (l : List Du) (w : World) (hR : Sd w (.slice A l.length c) l) (hS : Sd w (.slice B l.length d) l) :
    Calls Try.prog 27 #[.slice A l.length c, .slice B l.length d] w fun e w' => e = .returned (.bool true) ∧ Below w.heap.size w w' := by
  have HR := Lib.hid (Sd.rd hR)
  have HS := Lib.hid (Sd.rd hS)
  obtain ⟨k1, k2⟩ := Sd.cap hR
  clear hR hS
  go_enter Try.func27, Try.ntmps27
  go_wp2_with fail
  go_loopw [5, 13] (fun _ x wr => ∃ k : Nat, k ≤ l.length ∧ x = .int .i64 k ∧ Below w.heap.size w wr) (fun _ x _ => l.length - (intOf x).toNat)
  case atStart => exact ⟨0, by omega, rfl, Below.refl _ _⟩
  case round =>
    obtain ⟨k, hk, rfl, hB⟩ := hrel
    have HB := Lib.hid hB
    by_cases hlt : k < l.length
    · obtain ⟨b, off, rfl, hb0, hcell⟩ := (HR.out.below hB) (by omega)
      obtain ⟨b', off', rfl, hb0', hcell'⟩ := (HS.out.below hB) (by omega)
      have c0 := hcell k hlt 0 _ rfl
      have c1 := hcell k hlt 1 _ rfl
      have e0 := hcell' k hlt 0 _ rfl
      have e1 := hcell' k hlt 1 _ rfl
      simp only [Nat.add_zero] at c0 e0
      clear hcell hcell' hB
      generalize nthD l k = r at *
      obtain ⟨r1, r2⟩ := r
      dsimp only at c0 c1 e0 e1
      have i1 : (0 : Int) ≤ (k : Int) := by omega
      have i2 : (k : Int) < (l.length : Int) := by omega
      go_wp2_with fail
      go_quiet (fail)
      go_wp2_with fail
      go_roundw
      case rel => exact ⟨k + 1, by omega, by go_num, below_drewN HB.out _⟩
      case measure => simp [intOf]; omega
    · obtain rfl : k = l.length := by omega
      go_wp2_with fail
      go_ret
      exact ⟨rfl, HB.out⟩
set_option maxHeartbeats 1000000 in
theorem sameT_same (now : Int) (A B : Option Addr) (c d : Nat) (l : List Du) (w : World) (hR : Sd w (.slice A l.length c) l) (hS : Sd w (.slice B l.length d) l) :
    Calls Try.prog 13 #[.agg #[.int .i64 now, .slice A l.length c], .agg #[.int .i64 now, .slice B l.length d]] w fun e w' => e = .returned (.bool true) ∧ Below w.heap.size w w' := by
  have HR := Lib.hid hR
  have HS := Lib.hid hS
  have HB := Lib.hid (show Below w.heap.size w ((w.alloc (.cells #[.int .i64 now, .slice A l.length c] 24)).alloc (.cells #[.int .i64 now, .slice B l.length d] 24)) from ((Below.refl _ _).alloc (Nat.le_refl _) _).alloc (by simp) _)
  clear hR hS
  go_enter Try.func13, Try.ntmps13
  go_wp2_with fail
  refine (sameDs_same A B c d l _ (HR.out.below HB.out) (HS.out.below HB.out)).mono ?_
  rintro e w1 ⟨rfl, hb1⟩
  have HB1 := Lib.hid (HB.out.trans (hb1.mono HB.out.size))
  clear hb1
  go_wp2_with fail
  go_ret
  exact ⟨rfl, HB1.out⟩
theorem grow_run (w : World) (ty : TypeId) (n : Nat) (h0 : 0 < n) (hn : n ≤ 1000000) : ∃ cap w', (Builtin.append_ #[22, 3] ty #[.slice none 0 0, .int .i64 n]).run Try.prog w = .ok (.slice (some ⟨w.heap.size, 0, none⟩) n cap) w' ∧ n ≤ cap ∧
    w'.ownsRow w.heap.size 34 2 (.slice (some ⟨w.heap.size, 0, none⟩) 0 cap) 0 [] ∧ Below w.heap.size w w' := by
  obtain ⟨i0, hi, hz0, hz1, hz2⟩ := info_parts info_cloneDr
  have hle := grownCap_ge w n 0 34
  have hr := Lib.run_append_nil_zeros (P := Try.prog) w 22 3 ty 34 i0 (.agg #[.int .i64 0, .int .i64 0]) .i64 .i64 Try.underlying22 Try.underlying3 hi hz0 n h0 (by omega) (by omega) (by rw [hz2]; omega)
  refine ⟨_, _, hr, hle, World.ownsRow_made w.drew _ _ (Nat.le_refl _) ?_ ?_, ((Below.refl _ _).drew).alloc (Nat.le_refl _) _⟩
  · exact grownCap_le_maxLen w n 0 34 (by unfold maxLen; omega)
  · rw [Array.size_append, size_zeroCells, size_zeroCells, show (Value.agg #[.int .i64 0, .int .i64 0]).cells.size = 2 from rfl]; omega
def GrowPost (w : World) (e : Ending) (w' : World) : Prop := ∃ v, e = .returned v ∧ w'.ownsRow w.heap.size 34 2 v 0 [] ∧ Below w.heap.size w w'
set_option maxHeartbeats 800000 in
theorem growD_any (n : Nat) (w : World) (hn : n ≤ 1000000) : Calls Try.prog 31 #[.slice none 0 0, .int .i64 n] w (GrowPost w) := by
  by_cases h0 : 0 < n
  · have e0 : decide ((n : Int) < 0) = false := by simp
    have e1 : decide ((0 : Int) < (n : Int)) = true := by simp; omega
    obtain ⟨cap, w1, hr, hcap, hown, hb⟩ := grow_run w 22 n h0 hn
    have HO := Lib.hid hown
    have HB := Lib.hid hb
    have HR := Lib.hid hr
    clear hown hb hr
    go_enter Try.func31, Try.ntmps31
    go_wp2_with (at_builtin; refine Lib.wpList_append_run _ rfl _ _ _ _ rfl _ _ rfl rfl _ _ HR.out ?_)
    go_ret
    exact ⟨_, rfl, HO.out, HB.out⟩
  · obtain rfl : n = 0 := by omega
    go_enter Try.func31, Try.ntmps31
    go_wp2_with fail
    go_ret
    exact ⟨_, rfl, World.ownsRow_nil _ _ _ _, Below.refl _ _⟩
def catD (Q : Nat → List Du) : Nat → List Du
  | 0 => []
  | n + 1 => catD Q n ++ Q n
theorem catD_le (Q : Nat → List Du) {i k : Nat} (h : i ≤ k) : (catD Q i).length ≤ (catD Q k).length := by
  induction k with
  | zero => obtain rfl : i = 0 := by omega
            exact Nat.le_refl _
  | succ k ih =>
    by_cases e : i = k + 1
    · rw [e]; exact Nat.le_refl _
    · have := ih (by omega)
      rw [catD, List.length_append]; omega
/-- a slice of rows of timers -/
def RdDD (w : World) (A : Option Addr) (n : Nat) (Q : Nat → List Du) : Prop := 0 < n → ∃ b off, A = some ⟨b, off, none⟩ ∧ b < w.heap.size ∧ ∀ i, i < n → ∃ qA qc, w.cell? ⟨b, off + i, none⟩ = some (.slice qA (Q i).length qc) ∧ Sd w (.slice qA (Q i).length qc) (Q i)
def CatPost (l : List Du) (w : World) (e : Ending) (w' : World) : Prop := ∃ v, e = .returned v ∧ OwnD w' w.heap.size v l ∧ Below w.heap.size w w'
theorem append_none (w : World) (ty : TypeId) (base : Nat) (v : Value) (n : Nat) (xs : List Value) (hown : w.ownsRow base 34 2 v n xs) (qc : Nat) : (Builtin.append_ #[22, 22] ty #[v, .slice none 0 qc]).run Try.prog w = .ok v w := by
  obtain ⟨i0, hi, hz0, hz1, hz2⟩ := info_parts info_cloneDr
  rcases hown.2 with ⟨rfl, rfl⟩ | ⟨g, cap, cur, rfl, _, _, hnc, _⟩
  · simp [Builtin.append_, run_underlying Try.underlying22, sizeOf, typeInfo, hi, Builtin.lenOf, Builtin.firstCells]
  · simp [Builtin.append_, run_underlying Try.underlying22, sizeOf, typeInfo, hi, Builtin.lenOf, Builtin.firstCells, hnc, storeCells]
set_option maxRecDepth 100000 in
set_option maxHeartbeats 2000000 in
theorem concat_any (A : Option Addr) (n c : Nat) (Q : Nat → List Du) (w : World) (hn : n ≤ c) (hc : c ≤ 9223372036854775807) (hR : RdDD w A n Q) (hl : (catD Q n).length ≤ 1000000) :
    Calls Try.prog 18 #[.slice A n c] w (CatPost (catD Q n) w) := by
  obtain ⟨i0, hi, hz0, hz1, hz2⟩ := info_parts info_cloneDr
  have HR := Lib.hid hR
  have HL := Lib.hid hl
  clear hR hl
  go_enter Try.func18, Try.ntmps18
  go_wp2_with fail
  go_loop [3, 5, 11] (fun t _ x => ∃ i : Nat, i ≤ n ∧ x = .int .i64 i ∧ t = .int .i64 (catD Q i).length) (fun _ _ x => n - (intOf x).toNat)
  case atStart => exact ⟨0, Nat.zero_le _, rfl, rfl⟩
  case round =>
    obtain ⟨i, hin, rfl, rfl⟩ := hrel
    by_cases hlt : i < n
    · obtain ⟨b, off, rfl, hb, hcell⟩ := HR.out (by omega)
      obtain ⟨qA, qc, c0, h5⟩ := hcell i hlt
      have hcl : (catD Q (i + 1)).length = (catD Q i).length + (Q i).length := by rw [catD, List.length_append]
      have hle := catD_le Q (show i + 1 ≤ n by omega)
      have hml := HL.out
      have e1 : decide (((catD Q i).length : Int) + ((Q i).length : Int) < 0) = false := by simp; omega
      have HCL := Lib.hid hcl
      have hs1 : (catD Q i).length ≤ 1000000 := by omega
      have hs2 : (Q i).length ≤ 1000000 := by omega
      clear hcell h5 hcl hle hml
      go_wp2_with fail
      go_round
      case rel => exact ⟨i + 1, by omega, by go_num, by rw [HCL.out]; go_num⟩
      case measure => simp [intOf]; omega
    · obtain rfl : n = i := by omega
      have hml := HL.out
      go_wp2_with fail
      refine (growD_any _ _ HL.out).mono ?_
      rintro e w1 ⟨v1, rfl, hown1, hb1⟩
      have HO1 := Lib.hid hown1
      have HB1 := Lib.hid hb1
      clear hown1 hb1
      go_wp2_with fail
      go_loopw [6, 8, 27] (fun o _ x wr => ∃ (i : Nat) (v : Value), i ≤ n ∧ x = .int .i64 i ∧ v = o ∧ OwnD wr w.heap.size v (catD Q i) ∧ Below w.heap.size w wr) (fun _ _ x _ => n - (intOf x).toNat)
      case atStart => exact ⟨0, _, Nat.zero_le _, rfl, rfl, HO1.out, HB1.out⟩
      case round =>
        obtain ⟨i, v, hin, rfl, rfl, hO, hB⟩ := hrel
        have HO := Lib.hid hO
        have HB := Lib.hid hB
        have hBs := hB.size
        obtain ⟨Ao, co, rfl, hnco, hcmo, _⟩ := own_any hO
        by_cases hlt : i < n
        · obtain ⟨b, off, rfl, hb, hcell⟩ := HR.out (by omega)
          obtain ⟨qA, qc, h1, h5⟩ := hcell i hlt
          have c0 : wr.cell? ⟨b, off + i, none⟩ = some (.slice qA (Q i).length qc) := (hB.cell (p := ⟨b, _, none⟩) hb).trans h1
          have hcl : (catD Q (i + 1)).length = (catD Q i).length + (Q i).length := by rw [catD, List.length_append]
          have hle := catD_le Q (show i + 1 ≤ n by omega)
          have HQ := Lib.hid ((h5.below hB).rd)
          have H4 := Lib.hid h5.none
          have HLC := Lib.hid (show (catD Q i).length + (Q i).length ≤ 1000000 by omega)
          clear hO hB hcell h1 h5 hcl hle
          cases qA with
          | none =>
            have hz : (Q i).length = 0 := H4.out rfl
            have HAN := Lib.hid (append_none wr 22 w.heap.size _ _ _ HO.out qc)
            go_wp2_with (at_builtin; refine Lib.wpList_append_run _ rfl _ _ _ _ rfl _ _ rfl rfl _ _ HAN.out ?_)
            refine ⟨⟨i + 1, _, by omega, by go_num, rfl, ?_, HB.out⟩, by simp [intOf]; omega⟩
            rw [catD, List.eq_nil_of_length_eq_zero hz, List.append_nil]
            exact HO.out
          | some qa =>
            have HQ2 := Lib.hid (show ∀ j u, (encD (Q i))[j]? = some u → wr.cell? (qa.add j) = some u from fun j u hu => by
              have hj : j < (Q i).length * 2 := by
                rcases Nat.lt_or_ge j ((Q i).length * 2) with hh | hh
                · exact hh
                · rw [List.getElem?_eq_none (by rw [encD_len]; exact hh)] at hu; cases hu
              obtain ⟨b1, o1, hA, _, hc1⟩ := HQ.out (by omega)
              injection hA with hA
              subst hA
              rw [Go.WideShapes.add_plain]
              have h3 := flatC_get (g := duC (nthD (Q i))) (sz := 2) (duC_len _) (n := (Q i).length) (k := j / 2) (j := j % 2) (by omega) (by omega)
              rw [flatC_du, Nat.div_add_mod'] at h3
              rw [h3] at hu
              have := hc1 (j / 2) (by omega) (j % 2) u hu
              rw [show o1 + j / 2 * 2 + j % 2 = o1 + j by omega] at this
              exact this)
            go_wp2_with (at_builtin; go_loud (refine wpList_append_own_at _ rfl _ _ 22 rfl w.heap.size 34 i0 _ 2 16 Try.underlying22 hi hz0 hz1 hz2 rfl (by omega) (.slice Ao (catD Q i).length co) (catD Q i).length (encD (catD Q i)) rfl HO.out qa (Q i).length qc (encD (Q i)) rfl (encD_len _) HQ2.out (encD_one _) (by have := HLC.out; unfold maxLen; omega) (by have := HLC.out; omega) hBs ?_; intro v2 w2 hown2 hgrow2 _ _; have HO2 := Lib.hid hown2; have HG2 := Lib.hid hgrow2; clear hown2 hgrow2))
            refine ⟨⟨i + 1, v2, by omega, by go_num, rfl, ?_, ?_⟩, by simp [intOf]; omega⟩
            · unfold OwnD
              rw [catD, List.length_append, encD_append]
              exact HO2.out
            · exact below_grown HB.out hBs HG2.out (fun k hk => (HO.out.blk k hk).1)
        · obtain rfl : n = i := by omega
          clear hO hB
          go_wp2_with fail
          go_ret
          exact ⟨_, rfl, HO.out, HB.out⟩
def oneDu : List Du := setL 0 7 3 []
theorem oneDu_eq : oneDu = [⟨3, 7⟩] := by
  unfold oneDu setL others srtD
  simp [List.mergeSort_singleton]
theorem okNil : SetsT 0 7 3 [] := ⟨⟨by simp, by omega, fun i hi => by simp at hi⟩, by omega, by simp [others]⟩
set_option maxHeartbeats 1000000 in
theorem timers_any (w : World) : Calls Try.prog 7 #[] w fun e w' => e = .returned (.bool true) ∧ Below w.heap.size w w' := by
  go_enter Try.func7, Try.ntmps7
  go_wp2_with fail
  refine (set_any 0 none 0 [] 7 3 w (Sd.nil w)).mono ?_
  rintro e w1 (⟨_, A, c, rfl, hO, hb⟩ | ⟨hno, _⟩)
  · rw [show setL 0 7 3 [] = [⟨3, 7⟩] from oneDu_eq] at hO ⊢
    have hR := hO.rd
    obtain ⟨b, off, rfl, hlt, hc⟩ := hR (by simp)
    have c0 : w1.cell? ⟨b, off, none⟩ = some (.int .i64 3) := by simpa [duC, nthD] using hc 0 (by simp) 0 _ rfl
    have c1 : w1.cell? ⟨b, off + 1, none⟩ = some (.int .i64 7) := by simpa [duC, nthD] using hc 0 (by simp) 1 _ rfl
    have HB := Lib.hid hb
    have hs := hb.size
    clear hR hc hO hb
    go_wp2_with fail
    go_ret
    exact ⟨rfl, HB.out.alloc hs _⟩
  · exact absurd okNil hno
end Go.Proofs.Ythnoahldolfffaa
