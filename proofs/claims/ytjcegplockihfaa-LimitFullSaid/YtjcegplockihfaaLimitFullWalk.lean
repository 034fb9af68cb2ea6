/- The walk of the law LimitFull. -/
import Derived.Test.YtjcegplockihfaaLimitTakeOk
import Derived.Test.YtjcegplockihfaaOpen
import Derived.WalkLawsBesides
namespace Go.Proofs.Ytjcegplockihfaa
open Go.RowKit Go.ChangeShapes Go.WideShapes
set_option linter.unusedVariables false
set_option maxHeartbeats 400000 in
theorem law1_any (r : LRow) (ref : Int) (b : Nat) (w : World) (hb : b < w.heap.size) (hc : w.cell? ⟨b, 0, none⟩ = some (.int .i64 ref)) :
    Calls Try.prog 17 #[.agg #[.int .i64 r.ref, .int .i64 r.letters, .int .i64 r.cells, .int .i64 r.maxL, .int .i64 r.maxC], .pointer (some ⟨b, 0, none⟩)] w fun e w' => e = .returned (.bool (r.ref == ref)) ∧ Below w.heap.size w w' := by
  go_enter Try.func17, Try.ntmps17
  go_wp2_with fail
  go_ret
  exact ⟨rfl, (Below.refl _ _).alloc (Nat.le_refl _) _⟩
theorem law1_enters : Enters Try.prog 17 := fun _ _ => by kernel_rfl
theorem ixRef_any (A : Option Addr) (n c b : Nat) (R : Nat → LRow) (ref : Int) (w : World) (hn : n ≤ 9223372036854775807) (hR : Rd w 5 (rowC R) A n) (hb : b < w.heap.size) (hc : w.cell? ⟨b, 0, none⟩ = some (.int .i64 ref)) :
    Calls Try.prog 16 #[.slice A n c, .func (.func 17) #[] #[.pointer (some ⟨b, 0, none⟩)]] w fun e w' => e = .returned (.int .i64 (ixOf (refB R ref) n)) ∧ Below w.heap.size w w' :=
  ixL_rd A n c 17 #[.pointer (some ⟨b, 0, none⟩)] _ _ _ _ _ (refB R ref) w hn hR law1_enters
    fun W hW k _ => (law1_any (R k) ref b W (Nat.lt_of_lt_of_le hb hW.size) ((hW.cell (p := ⟨_, _, none⟩) hb).trans hc)).mono fun e W' ⟨he, hb⟩ => ⟨he, hW.trans (hb.mono hW.size)⟩
def oneRow : Nat → LRow := fun _ => ⟨1, 0, 0, 3, 3⟩
theorem oneOk : OkL oneRow 1 := ⟨by omega, fun k hk => ⟨by simp [FineL, oneRow], fun h => by omega⟩⟩
theorem rd_one (w : World) (b : Nat) (hb : b < w.heap.size) (hc : ∀ j u, (rowC oneRow 0)[j]? = some u → w.cell? ⟨b, j, none⟩ = some u) : Rd w 5 (rowC oneRow) (some ⟨b, 0, none⟩) 1 := fun _ => ⟨b, 0, rfl, hb, fun k hk j u hu => by
  obtain rfl : k = 0 := by omega
  simpa using hc j u hu⟩
set_option maxRecDepth 100000 in
set_option maxHeartbeats 1000000 in
theorem limits_any (w : World) : Calls Try.prog 18 #[] w fun e w' => e = .returned (.bool true) ∧ Below w.heap.size w w' := by
  have H : ∀ o : Obj, Rd (w.alloc o) 5 (rowC oneRow) (some ⟨w.heap.size, 0, none⟩) 1 → Calls Try.prog 15 #[.slice (some ⟨w.heap.size, 0, none⟩) 1 1, .int .i64 1, .int .i64 1, .int .i64 2] (w.alloc o) (RowsPost 1 (updF oneRow 0 (taken (oneRow 0) 1 2)) (w.alloc o)) := fun o ho =>
    take_ok _ 1 1 oneRow 1 1 2 0 (w.alloc o) (by omega) (by omega) ho oneOk rfl (by omega) (by simp [OkT, oneRow])
  have H := Lib.hid H
  go_enter Try.func18, Try.ntmps18
  go_wp2_with fail
  refine (H.out _ (rd_one _ _ (by simp) (fun j u hu => ?_))).mono ?_
  · match j, hu with
    | 0, hu => simp [rowC, oneRow] at hu; subst hu; simp
    | 1, hu => simp [rowC, oneRow] at hu; subst hu; simp
    | 2, hu => simp [rowC, oneRow] at hu; subst hu; simp
    | 3, hu => simp [rowC, oneRow] at hu; subst hu; simp
    | 4, hu => simp [rowC, oneRow] at hu; subst hu; simp
    | j + 5, hu => simp [rowC] at hu
  rintro e w1 ⟨v, rfl, hown, hb⟩
  obtain ⟨g, cap, rfl, hbase, hlt, hnc, hcm⟩ := own_form hown (by omega)
  have c1 : w1.cell? ⟨g, 1, none⟩ = some (.int .i64 1) := by
    have := own_row_cell hown (k := 0) (by omega) 1 (by omega)
    simpa [rowC, updF, taken, oneRow] using this
  have c2 : w1.cell? ⟨g, 2, none⟩ = some (.int .i64 2) := by
    have := own_row_cell hown (k := 0) (by omega) 2 (by omega)
    simpa [rowC, updF, taken, oneRow] using this
  clear hown
  go_wp2_with fail
  go_ret
  exact ⟨rfl, ((Below.refl _ _).alloc (Nat.le_refl _) _).trans (hb.mono (by simp))⟩
set_option maxRecDepth 100000 in
set_option maxHeartbeats 2000000 in
theorem full_bad (A : Option Addr) (n c : Nat) (R : Nat → LRow) (ref l d : Int) (w : World) (hn : n ≤ c) (hc : c ≤ 9223372036854775807) (hR : Rd w 5 (rowC R) A n) (h : ¬ OkL R n) :
    Calls Try.prog 3 #[.slice A n c, .int .i64 ref, .int .i64 l, .int .i64 d] w fun e w' => e = .returned (.bool true) ∧ Below w.heap.size w w' := by
  have hok := Lib.hid h
  clear h
  have HR := Lib.hid hR
  clear hR
  go_enter Try.func3, Try.ntmps3
  go_wp2_with fail
  refine (take_err0 A n c R ref l d _ hn hc (HR.out.alloc _) (.inl hok.out)).mono ?_
  rintro e w1 ⟨x, rfl, hx, hb1⟩
  have hx1 : (x != 0) = true := by simpa using hx
  have hx2 : (x == 0) = false := by simpa using hx
  clear hx
  have hB1 : Below w.heap.size w w1 := ((Below.refl _ _).alloc (Nat.le_refl _) _).trans (hb1.mono (by simp))
  have hz1 : w.heap.size < w1.heap.size := by have := hb1.size; simp at this; omega
  have cb : w1.cell? ⟨w.heap.size, 0, none⟩ = some (.int .i64 ref) := (hb1.cell (p := ⟨_, _, none⟩) (by simp)).trans (by simp)
  clear hb1
  go_wp2_with fail
  refine (ixRef_any A n c w.heap.size R ref _ (by omega) (HR.out.below hB1) hz1 cb).mono ?_
  rintro e w2 ⟨rfl, hb2⟩
  have cb2 : w2.cell? ⟨w.heap.size, 0, none⟩ = some (.int .i64 ref) := (hb2.cell (p := ⟨_, _, none⟩) hz1).trans cb
  have hB2 : Below w.heap.size w w2 := hB1.trans (hb2.mono (Nat.le_of_lt hz1))
  have hz2 : w.heap.size < w2.heap.size := Nat.lt_of_lt_of_le hz1 hb2.size
  clear hb2 hB1 cb hz1
  generalize ixOf (refB R ref) n = ix at *
  go_wp2_with fail
  refine (limits_any _).mono ?_
  rintro e w3 ⟨rfl, hb3⟩
  have cb3 : w3.cell? ⟨w.heap.size, 0, none⟩ = some (.int .i64 ref) := (hb3.cell (p := ⟨_, _, none⟩) hz2).trans cb2
  have hB3 : Below w.heap.size w w3 := hB2.trans (hb3.mono (Nat.le_of_lt hz2))
  have hz3 : w.heap.size < w3.heap.size := Nat.lt_of_lt_of_le hz2 hb3.size
  clear hb3 hB2 cb2 hz2
  go_wp2_with fail
  refine (check_bad A n c R _ hn hc (HR.out.below hB3) hok.out).mono ?_
  rintro e w4 ⟨y, rfl, hy, hb4⟩
  have hB4 : Below w.heap.size w w4 := hB3.trans (hb4.mono (Nat.le_of_lt hz3))
  have hz4 : w.heap.size < w4.heap.size := Nat.lt_of_lt_of_le hz3 hb4.size
  have hy1 : (y != 0) = true := by simpa using hy
  have hy2 : (y == 0) = false := by simpa using hy
  clear hb4 hB3 cb3 hz3 hy
  go_wp2_with fail
  refine (limits_any _).mono ?_
  rintro e w5 ⟨rfl, hb5⟩
  go_wp2_with fail
  go_ret
  exact ⟨rfl, hB4.trans (hb5.mono (Nat.le_of_lt hz4))⟩
set_option maxRecDepth 100000 in
set_option maxHeartbeats 2000000 in
theorem full_none (A : Option Addr) (n c : Nat) (R : Nat → LRow) (ref l d : Int) (w : World) (hn : n ≤ c) (hc : c ≤ 9223372036854775807) (hR : Rd w 5 (rowC R) A n) (h : OkL R n) (hf : ixOf (refB R ref) n = -1) :
    Calls Try.prog 3 #[.slice A n c, .int .i64 ref, .int .i64 l, .int .i64 d] w fun e w' => e = .returned (.bool true) ∧ Below w.heap.size w w' := by
  have ok := Lib.hid h
  have HF := Lib.hid hf
  clear h hf
  have HR := Lib.hid hR
  clear hR
  go_enter Try.func3, Try.ntmps3
  go_wp2_with fail
  refine (take_err0 A n c R ref l d _ hn hc (HR.out.alloc _) (.inr HF.out)).mono ?_
  rintro e w1 ⟨x, rfl, hx, hb1⟩
  have hx1 : (x != 0) = true := by simpa using hx
  have hx2 : (x == 0) = false := by simpa using hx
  clear hx
  have hB1 : Below w.heap.size w w1 := ((Below.refl _ _).alloc (Nat.le_refl _) _).trans (hb1.mono (by simp))
  have hz1 : w.heap.size < w1.heap.size := by have := hb1.size; simp at this; omega
  have cb : w1.cell? ⟨w.heap.size, 0, none⟩ = some (.int .i64 ref) := (hb1.cell (p := ⟨_, _, none⟩) (by simp)).trans (by simp)
  clear hb1
  go_wp2_with fail
  refine (ixRef_any A n c w.heap.size R ref _ (by omega) (HR.out.below hB1) hz1 cb).mono ?_
  rintro e w2 ⟨rfl, hb2⟩
  have cb2 : w2.cell? ⟨w.heap.size, 0, none⟩ = some (.int .i64 ref) := (hb2.cell (p := ⟨_, _, none⟩) hz1).trans cb
  have hB2 : Below w.heap.size w w2 := hB1.trans (hb2.mono (Nat.le_of_lt hz1))
  have hz2 : w.heap.size < w2.heap.size := Nat.lt_of_lt_of_le hz1 hb2.size
  clear hb2 hB1 cb hz1
  rw [HF.out]
  go_wp2_with fail
  refine (limits_any _).mono ?_
  rintro e w3 ⟨rfl, hb3⟩
  have cb3 : w3.cell? ⟨w.heap.size, 0, none⟩ = some (.int .i64 ref) := (hb3.cell (p := ⟨_, _, none⟩) hz2).trans cb2
  have hB3 : Below w.heap.size w w3 := hB2.trans (hb3.mono (Nat.le_of_lt hz2))
  have hz3 : w.heap.size < w3.heap.size := Nat.lt_of_lt_of_le hz2 hb3.size
  clear hb3 hB2 cb2 hz2
  go_wp2_with fail
  refine (check_ok A n c R _ hn hc (HR.out.below hB3) ok.out).mono ?_
  rintro e w4 ⟨rfl, hb4⟩
  have cb4 : w4.cell? ⟨w.heap.size, 0, none⟩ = some (.int .i64 ref) := (hb4.cell (p := ⟨_, _, none⟩) hz3).trans cb3
  have hB4 : Below w.heap.size w w4 := hB3.trans (hb4.mono (Nat.le_of_lt hz3))
  have hz4 : w.heap.size < w4.heap.size := Nat.lt_of_lt_of_le hz3 hb4.size
  clear hb4 hB3 cb3 hz3
  go_wp2_with fail
  refine (limits_any _).mono ?_
  rintro e w5 ⟨rfl, hb5⟩
  go_wp2_with fail
  go_ret
  exact ⟨rfl, hB4.trans (hb5.mono (Nat.le_of_lt hz4))⟩
set_option maxRecDepth 100000 in
set_option maxHeartbeats 2000000 in
theorem full_neg1 (A : Option Addr) (n c : Nat) (R : Nat → LRow) (ref l d : Int) (w : World) (hn : n ≤ c) (hc : c ≤ 9223372036854775807) (hR : Rd w 5 (rowC R) A n) (k : Nat) (h : OkL R n) (hf : ixOf (refB R ref) n = k) (hk : k < n) (a0 : l < 0) :
    Calls Try.prog 3 #[.slice A n c, .int .i64 ref, .int .i64 l, .int .i64 d] w fun e w' => e = .returned (.bool true) ∧ Below w.heap.size w w' := by
  have ok := Lib.hid h
  have HF := Lib.hid hf
  have HT := Lib.hid (show ¬ OkT (R k) l d by unfold OkT; omega)
  clear h hf
  have b0 : decide (l < 0) = true := by simp; omega
  have HR := Lib.hid hR
  clear hR
  go_enter Try.func3, Try.ntmps3
  go_wp2_with fail
  refine (take_err1 A n c R ref l d k _ hn hc (HR.out.alloc _) ok.out HF.out hk HT.out).mono ?_
  rintro e w1 ⟨x, rfl, hx, hb1⟩
  have hx1 : (x != 0) = true := by simpa using hx
  have hx2 : (x == 0) = false := by simpa using hx
  clear hx
  have hB1 : Below w.heap.size w w1 := ((Below.refl _ _).alloc (Nat.le_refl _) _).trans (hb1.mono (by simp))
  have hz1 : w.heap.size < w1.heap.size := by have := hb1.size; simp at this; omega
  have cb : w1.cell? ⟨w.heap.size, 0, none⟩ = some (.int .i64 ref) := (hb1.cell (p := ⟨_, _, none⟩) (by simp)).trans (by simp)
  clear hb1
  go_wp2_with fail
  refine (ixRef_any A n c w.heap.size R ref _ (by omega) (HR.out.below hB1) hz1 cb).mono ?_
  rintro e w2 ⟨rfl, hb2⟩
  have cb2 : w2.cell? ⟨w.heap.size, 0, none⟩ = some (.int .i64 ref) := (hb2.cell (p := ⟨_, _, none⟩) hz1).trans cb
  have hB2 : Below w.heap.size w w2 := hB1.trans (hb2.mono (Nat.le_of_lt hz1))
  have hz2 : w.heap.size < w2.heap.size := Nat.lt_of_lt_of_le hz1 hb2.size
  clear hb2 hB1 cb hz1
  rw [HF.out]
  go_wp2_with fail
  refine (limits_any _).mono ?_
  rintro e w3 ⟨rfl, hb3⟩
  have cb3 : w3.cell? ⟨w.heap.size, 0, none⟩ = some (.int .i64 ref) := (hb3.cell (p := ⟨_, _, none⟩) hz2).trans cb2
  have hB3 : Below w.heap.size w w3 := hB2.trans (hb3.mono (Nat.le_of_lt hz2))
  have hz3 : w.heap.size < w3.heap.size := Nat.lt_of_lt_of_le hz2 hb3.size
  clear hb3 hB2 cb2 hz2
  go_wp2_with fail
  refine (check_ok A n c R _ hn hc (HR.out.below hB3) ok.out).mono ?_
  rintro e w4 ⟨rfl, hb4⟩
  have cb4 : w4.cell? ⟨w.heap.size, 0, none⟩ = some (.int .i64 ref) := (hb4.cell (p := ⟨_, _, none⟩) hz3).trans cb3
  have hB4 : Below w.heap.size w w4 := hB3.trans (hb4.mono (Nat.le_of_lt hz3))
  have hz4 : w.heap.size < w4.heap.size := Nat.lt_of_lt_of_le hz3 hb4.size
  clear hb4 hB3 cb3 hz3
  go_wp2_with fail
  refine (limits_any _).mono ?_
  rintro e w5 ⟨rfl, hb5⟩
  go_wp2_with fail
  go_ret
  exact ⟨rfl, hB4.trans (hb5.mono (Nat.le_of_lt hz4))⟩
set_option maxRecDepth 100000 in
set_option maxHeartbeats 2000000 in
theorem full_neg2 (A : Option Addr) (n c : Nat) (R : Nat → LRow) (ref l d : Int) (w : World) (hn : n ≤ c) (hc : c ≤ 9223372036854775807) (hR : Rd w 5 (rowC R) A n) (k : Nat) (h : OkL R n) (hf : ixOf (refB R ref) n = k) (hk : k < n) (a0 : 0 ≤ l) (a1 : d < 0) :
    Calls Try.prog 3 #[.slice A n c, .int .i64 ref, .int .i64 l, .int .i64 d] w fun e w' => e = .returned (.bool true) ∧ Below w.heap.size w w' := by
  have ok := Lib.hid h
  have HF := Lib.hid hf
  have HT := Lib.hid (show ¬ OkT (R k) l d by unfold OkT; omega)
  clear h hf
  have b0 : decide (l < 0) = false := by simp; omega
  have b1 : decide (d < 0) = true := by simp; omega
  have HR := Lib.hid hR
  clear hR
  go_enter Try.func3, Try.ntmps3
  go_wp2_with fail
  refine (take_err1 A n c R ref l d k _ hn hc (HR.out.alloc _) ok.out HF.out hk HT.out).mono ?_
  rintro e w1 ⟨x, rfl, hx, hb1⟩
  have hx1 : (x != 0) = true := by simpa using hx
  have hx2 : (x == 0) = false := by simpa using hx
  clear hx
  have hB1 : Below w.heap.size w w1 := ((Below.refl _ _).alloc (Nat.le_refl _) _).trans (hb1.mono (by simp))
  have hz1 : w.heap.size < w1.heap.size := by have := hb1.size; simp at this; omega
  have cb : w1.cell? ⟨w.heap.size, 0, none⟩ = some (.int .i64 ref) := (hb1.cell (p := ⟨_, _, none⟩) (by simp)).trans (by simp)
  clear hb1
  go_wp2_with fail
  refine (ixRef_any A n c w.heap.size R ref _ (by omega) (HR.out.below hB1) hz1 cb).mono ?_
  rintro e w2 ⟨rfl, hb2⟩
  have cb2 : w2.cell? ⟨w.heap.size, 0, none⟩ = some (.int .i64 ref) := (hb2.cell (p := ⟨_, _, none⟩) hz1).trans cb
  have hB2 : Below w.heap.size w w2 := hB1.trans (hb2.mono (Nat.le_of_lt hz1))
  have hz2 : w.heap.size < w2.heap.size := Nat.lt_of_lt_of_le hz1 hb2.size
  clear hb2 hB1 cb hz1
  rw [HF.out]
  go_wp2_with fail
  refine (limits_any _).mono ?_
  rintro e w3 ⟨rfl, hb3⟩
  have cb3 : w3.cell? ⟨w.heap.size, 0, none⟩ = some (.int .i64 ref) := (hb3.cell (p := ⟨_, _, none⟩) hz2).trans cb2
  have hB3 : Below w.heap.size w w3 := hB2.trans (hb3.mono (Nat.le_of_lt hz2))
  have hz3 : w.heap.size < w3.heap.size := Nat.lt_of_lt_of_le hz2 hb3.size
  clear hb3 hB2 cb2 hz2
  go_wp2_with fail
  refine (check_ok A n c R _ hn hc (HR.out.below hB3) ok.out).mono ?_
  rintro e w4 ⟨rfl, hb4⟩
  have cb4 : w4.cell? ⟨w.heap.size, 0, none⟩ = some (.int .i64 ref) := (hb4.cell (p := ⟨_, _, none⟩) hz3).trans cb3
  have hB4 : Below w.heap.size w w4 := hB3.trans (hb4.mono (Nat.le_of_lt hz3))
  have hz4 : w.heap.size < w4.heap.size := Nat.lt_of_lt_of_le hz3 hb4.size
  clear hb4 hB3 cb3 hz3
  go_wp2_with fail
  refine (limits_any _).mono ?_
  rintro e w5 ⟨rfl, hb5⟩
  go_wp2_with fail
  go_ret
  exact ⟨rfl, hB4.trans (hb5.mono (Nat.le_of_lt hz4))⟩
set_option maxRecDepth 100000 in
set_option maxHeartbeats 2000000 in
theorem full_big1 (A : Option Addr) (n c : Nat) (R : Nat → LRow) (ref l d : Int) (w : World) (hn : n ≤ c) (hc : c ≤ 9223372036854775807) (hR : Rd w 5 (rowC R) A n) (k : Nat) (h : OkL R n) (hf : ixOf (refB R ref) n = k) (hk : k < n) (a0 : 0 ≤ l) (a1 : 0 ≤ d) (a2 : 1073741824 < l) :
    Calls Try.prog 3 #[.slice A n c, .int .i64 ref, .int .i64 l, .int .i64 d] w fun e w' => e = .returned (.bool true) ∧ Below w.heap.size w w' := by
  have ok := Lib.hid h
  have HF := Lib.hid hf
  have HT := Lib.hid (show ¬ OkT (R k) l d by unfold OkT; omega)
  clear h hf
  have b0 : decide (l < 0) = false := by simp; omega
  have b1 : decide (d < 0) = false := by simp; omega
  have b2 : decide (1073741824 < l) = true := by simp; omega
  have HR := Lib.hid hR
  clear hR
  go_enter Try.func3, Try.ntmps3
  go_wp2_with fail
  refine (take_err1 A n c R ref l d k _ hn hc (HR.out.alloc _) ok.out HF.out hk HT.out).mono ?_
  rintro e w1 ⟨x, rfl, hx, hb1⟩
  have hx1 : (x != 0) = true := by simpa using hx
  have hx2 : (x == 0) = false := by simpa using hx
  clear hx
  have hB1 : Below w.heap.size w w1 := ((Below.refl _ _).alloc (Nat.le_refl _) _).trans (hb1.mono (by simp))
  have hz1 : w.heap.size < w1.heap.size := by have := hb1.size; simp at this; omega
  have cb : w1.cell? ⟨w.heap.size, 0, none⟩ = some (.int .i64 ref) := (hb1.cell (p := ⟨_, _, none⟩) (by simp)).trans (by simp)
  clear hb1
  go_wp2_with fail
  refine (ixRef_any A n c w.heap.size R ref _ (by omega) (HR.out.below hB1) hz1 cb).mono ?_
  rintro e w2 ⟨rfl, hb2⟩
  have cb2 : w2.cell? ⟨w.heap.size, 0, none⟩ = some (.int .i64 ref) := (hb2.cell (p := ⟨_, _, none⟩) hz1).trans cb
  have hB2 : Below w.heap.size w w2 := hB1.trans (hb2.mono (Nat.le_of_lt hz1))
  have hz2 : w.heap.size < w2.heap.size := Nat.lt_of_lt_of_le hz1 hb2.size
  clear hb2 hB1 cb hz1
  rw [HF.out]
  go_wp2_with fail
  refine (limits_any _).mono ?_
  rintro e w3 ⟨rfl, hb3⟩
  have cb3 : w3.cell? ⟨w.heap.size, 0, none⟩ = some (.int .i64 ref) := (hb3.cell (p := ⟨_, _, none⟩) hz2).trans cb2
  have hB3 : Below w.heap.size w w3 := hB2.trans (hb3.mono (Nat.le_of_lt hz2))
  have hz3 : w.heap.size < w3.heap.size := Nat.lt_of_lt_of_le hz2 hb3.size
  clear hb3 hB2 cb2 hz2
  go_wp2_with fail
  refine (check_ok A n c R _ hn hc (HR.out.below hB3) ok.out).mono ?_
  rintro e w4 ⟨rfl, hb4⟩
  have cb4 : w4.cell? ⟨w.heap.size, 0, none⟩ = some (.int .i64 ref) := (hb4.cell (p := ⟨_, _, none⟩) hz3).trans cb3
  have hB4 : Below w.heap.size w w4 := hB3.trans (hb4.mono (Nat.le_of_lt hz3))
  have hz4 : w.heap.size < w4.heap.size := Nat.lt_of_lt_of_le hz3 hb4.size
  clear hb4 hB3 cb3 hz3
  go_wp2_with fail
  refine (limits_any _).mono ?_
  rintro e w5 ⟨rfl, hb5⟩
  go_wp2_with fail
  go_ret
  exact ⟨rfl, hB4.trans (hb5.mono (Nat.le_of_lt hz4))⟩
set_option maxRecDepth 100000 in
set_option maxHeartbeats 2000000 in
theorem full_big2 (A : Option Addr) (n c : Nat) (R : Nat → LRow) (ref l d : Int) (w : World) (hn : n ≤ c) (hc : c ≤ 9223372036854775807) (hR : Rd w 5 (rowC R) A n) (k : Nat) (h : OkL R n) (hf : ixOf (refB R ref) n = k) (hk : k < n) (a0 : 0 ≤ l) (a1 : 0 ≤ d) (a2 : l ≤ 1073741824) (a3 : 1073741824 < d) :
    Calls Try.prog 3 #[.slice A n c, .int .i64 ref, .int .i64 l, .int .i64 d] w fun e w' => e = .returned (.bool true) ∧ Below w.heap.size w w' := by
  have ok := Lib.hid h
  have HF := Lib.hid hf
  have HT := Lib.hid (show ¬ OkT (R k) l d by unfold OkT; omega)
  clear h hf
  have b0 : decide (l < 0) = false := by simp; omega
  have b1 : decide (d < 0) = false := by simp; omega
  have b2 : decide (1073741824 < l) = false := by simp; omega
  have b3 : decide (1073741824 < d) = true := by simp; omega
  have HR := Lib.hid hR
  clear hR
  go_enter Try.func3, Try.ntmps3
  go_wp2_with fail
  refine (take_err1 A n c R ref l d k _ hn hc (HR.out.alloc _) ok.out HF.out hk HT.out).mono ?_
  rintro e w1 ⟨x, rfl, hx, hb1⟩
  have hx1 : (x != 0) = true := by simpa using hx
  have hx2 : (x == 0) = false := by simpa using hx
  clear hx
  have hB1 : Below w.heap.size w w1 := ((Below.refl _ _).alloc (Nat.le_refl _) _).trans (hb1.mono (by simp))
  have hz1 : w.heap.size < w1.heap.size := by have := hb1.size; simp at this; omega
  have cb : w1.cell? ⟨w.heap.size, 0, none⟩ = some (.int .i64 ref) := (hb1.cell (p := ⟨_, _, none⟩) (by simp)).trans (by simp)
  clear hb1
  go_wp2_with fail
  refine (ixRef_any A n c w.heap.size R ref _ (by omega) (HR.out.below hB1) hz1 cb).mono ?_
  rintro e w2 ⟨rfl, hb2⟩
  have cb2 : w2.cell? ⟨w.heap.size, 0, none⟩ = some (.int .i64 ref) := (hb2.cell (p := ⟨_, _, none⟩) hz1).trans cb
  have hB2 : Below w.heap.size w w2 := hB1.trans (hb2.mono (Nat.le_of_lt hz1))
  have hz2 : w.heap.size < w2.heap.size := Nat.lt_of_lt_of_le hz1 hb2.size
  clear hb2 hB1 cb hz1
  rw [HF.out]
  go_wp2_with fail
  refine (limits_any _).mono ?_
  rintro e w3 ⟨rfl, hb3⟩
  have cb3 : w3.cell? ⟨w.heap.size, 0, none⟩ = some (.int .i64 ref) := (hb3.cell (p := ⟨_, _, none⟩) hz2).trans cb2
  have hB3 : Below w.heap.size w w3 := hB2.trans (hb3.mono (Nat.le_of_lt hz2))
  have hz3 : w.heap.size < w3.heap.size := Nat.lt_of_lt_of_le hz2 hb3.size
  clear hb3 hB2 cb2 hz2
  go_wp2_with fail
  refine (check_ok A n c R _ hn hc (HR.out.below hB3) ok.out).mono ?_
  rintro e w4 ⟨rfl, hb4⟩
  have cb4 : w4.cell? ⟨w.heap.size, 0, none⟩ = some (.int .i64 ref) := (hb4.cell (p := ⟨_, _, none⟩) hz3).trans cb3
  have hB4 : Below w.heap.size w w4 := hB3.trans (hb4.mono (Nat.le_of_lt hz3))
  have hz4 : w.heap.size < w4.heap.size := Nat.lt_of_lt_of_le hz3 hb4.size
  clear hb4 hB3 cb3 hz3
  go_wp2_with fail
  refine (limits_any _).mono ?_
  rintro e w5 ⟨rfl, hb5⟩
  go_wp2_with fail
  go_ret
  exact ⟨rfl, hB4.trans (hb5.mono (Nat.le_of_lt hz4))⟩
set_option maxRecDepth 100000 in
set_option maxHeartbeats 2000000 in
theorem full_yes (A : Option Addr) (n c : Nat) (R : Nat → LRow) (ref l d : Int) (w : World) (hn : n ≤ c) (hc : c ≤ 9223372036854775807) (hR : Rd w 5 (rowC R) A n) (k : Nat) (h : OkL R n) (hf : ixOf (refB R ref) n = k) (hk : k < n) (a1 : 0 ≤ l ∧ l ≤ 1073741824) (a2 : 0 ≤ d ∧ d ≤ 1073741824) (q1 : l ≤ (R k).maxL - (R k).letters) (q2 : d ≤ (R k).maxC - (R k).cells) :
    Calls Try.prog 3 #[.slice A n c, .int .i64 ref, .int .i64 l, .int .i64 d] w fun e w' => e = .returned (.bool true) ∧ Below w.heap.size w w' := by
  have ok := Lib.hid h
  have HF := Lib.hid hf
  have hfine := (h.2 k hk).1
  have HRR := Lib.hid hR
  obtain ⟨b, off, hA, hb0, hcell⟩ := hR (by omega)
  subst hA
  have c0 : w.cell? ⟨b, off + k * 5, none⟩ = some (.int .i64 (R k).ref) := hcell k hk 0 _ rfl
  have c1 : w.cell? ⟨b, off + k * 5 + 1, none⟩ = some (.int .i64 (R k).letters) := hcell k hk 1 _ rfl
  have c2 : w.cell? ⟨b, off + k * 5 + 2, none⟩ = some (.int .i64 (R k).cells) := hcell k hk 2 _ rfl
  have c3 : w.cell? ⟨b, off + k * 5 + 3, none⟩ = some (.int .i64 (R k).maxL) := hcell k hk 3 _ rfl
  have c4 : w.cell? ⟨b, off + k * 5 + 4, none⟩ = some (.int .i64 (R k).maxC) := hcell k hk 4 _ rfl
  have HT2 := Lib.hid (show OkT (R k) (l) (d) by unfold OkT; unfold FineL at hfine; omega)
  have HT := Lib.hid (show OkT (R k) l d by unfold OkT; unfold FineL at hfine; omega)
  obtain ⟨r, hr⟩ : ∃ r, R k = r := ⟨_, rfl⟩
  rw [hr] at c0 c1 c2 c3 c4 hfine q1 q2 HT2
  have HK := Lib.hid hr
  obtain ⟨rr, rl, rc, rml, rmc⟩ := r
  unfold FineL at hfine
  dsimp only at c0 c1 c2 c3 c4 hfine q1 q2 HT2
  obtain ⟨f1, f2, f3, f4, f5, f6⟩ := hfine
  obtain ⟨a1, a1'⟩ := a1
  obtain ⟨a2, a2'⟩ := a2
  have b0 : decide (l < 0) = false := by simp; omega
  have b1 : decide (d < 0) = false := by simp; omega
  have b2 : decide (1073741824 < l) = false := by simp; omega
  have b3 : decide (1073741824 < d) = false := by simp; omega
  have HC := Lib.hid (show ∀ W : World, Below w.heap.size w W → W.cell? ⟨b, off + k * 5, none⟩ = some (.int .i64 rr) ∧ W.cell? ⟨b, off + k * 5 + 1, none⟩ = some (.int .i64 rl) ∧ W.cell? ⟨b, off + k * 5 + 2, none⟩ = some (.int .i64 rc) ∧ W.cell? ⟨b, off + k * 5 + 3, none⟩ = some (.int .i64 rml) ∧ W.cell? ⟨b, off + k * 5 + 4, none⟩ = some (.int .i64 rmc) from fun W hW => by
    have hw1 : ∀ o, W.cell? ⟨b, o, none⟩ = w.cell? ⟨b, o, none⟩ := fun o => hW.cell (p := ⟨b, o, none⟩) hb0
    simp only [hw1]
    exact ⟨c0, c1, c2, c3, c4⟩)
  clear h hf hr hcell hR c0 c1 c2 c3 c4
  have HR := HRR
  clear HRR
  go_enter Try.func3, Try.ntmps3
  go_wp2_with fail
  refine (take_ok _ n c R ref l d k _ hn hc (HR.out.alloc _) ok.out HF.out hk HT.out).mono ?_
  rintro e w1 ⟨v, rfl, _, hb1⟩
  have hB1 : Below w.heap.size w w1 := ((Below.refl _ _).alloc (Nat.le_refl _) _).trans (hb1.mono (by simp))
  have hz1 : w.heap.size < w1.heap.size := by have := hb1.size; simp at this; omega
  have cb : w1.cell? ⟨w.heap.size, 0, none⟩ = some (.int .i64 ref) := (hb1.cell (p := ⟨_, _, none⟩) (by simp)).trans (by simp)
  clear hb1
  go_wp2_with fail
  refine (ixRef_any _ n c w.heap.size R ref _ (by omega) (HR.out.below hB1) hz1 cb).mono ?_
  rintro e w2 ⟨rfl, hb2⟩
  have cb2 : w2.cell? ⟨w.heap.size, 0, none⟩ = some (.int .i64 ref) := (hb2.cell (p := ⟨_, _, none⟩) hz1).trans cb
  have hB2 : Below w.heap.size w w2 := hB1.trans (hb2.mono (Nat.le_of_lt hz1))
  have hz2 : w.heap.size < w2.heap.size := Nat.lt_of_lt_of_le hz1 hb2.size
  clear hb2 hB1 cb hz1
  rw [HF.out]
  go_wp2_with fail
  refine (limits_any _).mono ?_
  rintro e w3 ⟨rfl, hb3⟩
  have cb3 : w3.cell? ⟨w.heap.size, 0, none⟩ = some (.int .i64 ref) := (hb3.cell (p := ⟨_, _, none⟩) hz2).trans cb2
  have hB3 : Below w.heap.size w w3 := hB2.trans (hb3.mono (Nat.le_of_lt hz2))
  have hz3 : w.heap.size < w3.heap.size := Nat.lt_of_lt_of_le hz2 hb3.size
  clear hb3 hB2 cb2 hz2
  go_wp2_with fail
  refine (check_ok _ n c R _ hn hc (HR.out.below hB3) ok.out).mono ?_
  rintro e w4 ⟨rfl, hb4⟩
  have cb4 : w4.cell? ⟨w.heap.size, 0, none⟩ = some (.int .i64 ref) := (hb4.cell (p := ⟨_, _, none⟩) hz3).trans cb3
  have hB4 : Below w.heap.size w w4 := hB3.trans (hb4.mono (Nat.le_of_lt hz3))
  have hz4 : w.heap.size < w4.heap.size := Nat.lt_of_lt_of_le hz3 hb4.size
  clear hb4 hB3 cb3 hz3
  obtain ⟨g0, g1, g2, g3, g4⟩ := HC.out w4 hB4
  have r1 : IntKind.i64.wrap (rml - rl) = rml - rl := IntWalk.i64_in _ (by omega)
  have r2 : IntKind.i64.wrap (rmc - rc) = rmc - rc := IntWalk.i64_in _ (by omega)
  go_wp2_with fail
  go_quiet (fail)
  clear r1 r2
  go_wp2_with fail
  refine (take_ok _ n c R ref _ _ k _ hn hc (HR.out.below (below_drewN (hB4.alloc (Nat.le_of_lt hz4) _) _)) ok.out HF.out hk (by rw [HK.out]; exact HT2.out)).mono ?_
  rintro e w6 ⟨v6, rfl, _, hb6⟩
  go_wp2_with fail
  go_ret
  exact ⟨rfl, (below_drewN (hB4.alloc (Nat.le_of_lt hz4) _) _).trans (hb6.mono (by show w.heap.size ≤ (w4.alloc _).heap.size; simp; omega))⟩
set_option maxRecDepth 100000 in
set_option maxHeartbeats 2000000 in
theorem full_no1 (A : Option Addr) (n c : Nat) (R : Nat → LRow) (ref l d : Int) (w : World) (hn : n ≤ c) (hc : c ≤ 9223372036854775807) (hR : Rd w 5 (rowC R) A n) (k : Nat) (h : OkL R n) (hf : ixOf (refB R ref) n = k) (hk : k < n) (a1 : 0 ≤ l ∧ l ≤ 1073741824) (a2 : 0 ≤ d ∧ d ≤ 1073741824) (q1 : (R k).maxL - (R k).letters < l) (q2 : d ≤ (R k).maxC - (R k).cells) :
    Calls Try.prog 3 #[.slice A n c, .int .i64 ref, .int .i64 l, .int .i64 d] w fun e w' => e = .returned (.bool true) ∧ Below w.heap.size w w' := by
  have ok := Lib.hid h
  have HF := Lib.hid hf
  have hfine := (h.2 k hk).1
  have HRR := Lib.hid hR
  obtain ⟨b, off, hA, hb0, hcell⟩ := hR (by omega)
  subst hA
  have c0 : w.cell? ⟨b, off + k * 5, none⟩ = some (.int .i64 (R k).ref) := hcell k hk 0 _ rfl
  have c1 : w.cell? ⟨b, off + k * 5 + 1, none⟩ = some (.int .i64 (R k).letters) := hcell k hk 1 _ rfl
  have c2 : w.cell? ⟨b, off + k * 5 + 2, none⟩ = some (.int .i64 (R k).cells) := hcell k hk 2 _ rfl
  have c3 : w.cell? ⟨b, off + k * 5 + 3, none⟩ = some (.int .i64 (R k).maxL) := hcell k hk 3 _ rfl
  have c4 : w.cell? ⟨b, off + k * 5 + 4, none⟩ = some (.int .i64 (R k).maxC) := hcell k hk 4 _ rfl
  have HT2 := Lib.hid (show OkT (R k) ((R k).maxL - (R k).letters) (d) by unfold OkT; unfold FineL at hfine; omega)
  have HT := Lib.hid (show ¬ OkT (R k) l d by unfold OkT; omega)
  obtain ⟨r, hr⟩ : ∃ r, R k = r := ⟨_, rfl⟩
  rw [hr] at c0 c1 c2 c3 c4 hfine q1 q2 HT2
  have HK := Lib.hid hr
  obtain ⟨rr, rl, rc, rml, rmc⟩ := r
  unfold FineL at hfine
  dsimp only at c0 c1 c2 c3 c4 hfine q1 q2 HT2
  obtain ⟨f1, f2, f3, f4, f5, f6⟩ := hfine
  obtain ⟨a1, a1'⟩ := a1
  obtain ⟨a2, a2'⟩ := a2
  have b0 : decide (l < 0) = false := by simp; omega
  have b1 : decide (d < 0) = false := by simp; omega
  have b2 : decide (1073741824 < l) = false := by simp; omega
  have b3 : decide (1073741824 < d) = false := by simp; omega
  have HC := Lib.hid (show ∀ W : World, Below w.heap.size w W → W.cell? ⟨b, off + k * 5, none⟩ = some (.int .i64 rr) ∧ W.cell? ⟨b, off + k * 5 + 1, none⟩ = some (.int .i64 rl) ∧ W.cell? ⟨b, off + k * 5 + 2, none⟩ = some (.int .i64 rc) ∧ W.cell? ⟨b, off + k * 5 + 3, none⟩ = some (.int .i64 rml) ∧ W.cell? ⟨b, off + k * 5 + 4, none⟩ = some (.int .i64 rmc) from fun W hW => by
    have hw1 : ∀ o, W.cell? ⟨b, o, none⟩ = w.cell? ⟨b, o, none⟩ := fun o => hW.cell (p := ⟨b, o, none⟩) hb0
    simp only [hw1]
    exact ⟨c0, c1, c2, c3, c4⟩)
  clear h hf hr hcell hR c0 c1 c2 c3 c4
  have HR := HRR
  clear HRR
  go_enter Try.func3, Try.ntmps3
  go_wp2_with fail
  refine (take_err1 _ n c R ref l d k _ hn hc (HR.out.alloc _) ok.out HF.out hk HT.out).mono ?_
  rintro e w1 ⟨x, rfl, hx, hb1⟩
  have hx1 : (x != 0) = true := by simpa using hx
  have hx2 : (x == 0) = false := by simpa using hx
  clear hx
  have hB1 : Below w.heap.size w w1 := ((Below.refl _ _).alloc (Nat.le_refl _) _).trans (hb1.mono (by simp))
  have hz1 : w.heap.size < w1.heap.size := by have := hb1.size; simp at this; omega
  have cb : w1.cell? ⟨w.heap.size, 0, none⟩ = some (.int .i64 ref) := (hb1.cell (p := ⟨_, _, none⟩) (by simp)).trans (by simp)
  clear hb1
  go_wp2_with fail
  refine (ixRef_any _ n c w.heap.size R ref _ (by omega) (HR.out.below hB1) hz1 cb).mono ?_
  rintro e w2 ⟨rfl, hb2⟩
  have cb2 : w2.cell? ⟨w.heap.size, 0, none⟩ = some (.int .i64 ref) := (hb2.cell (p := ⟨_, _, none⟩) hz1).trans cb
  have hB2 : Below w.heap.size w w2 := hB1.trans (hb2.mono (Nat.le_of_lt hz1))
  have hz2 : w.heap.size < w2.heap.size := Nat.lt_of_lt_of_le hz1 hb2.size
  clear hb2 hB1 cb hz1
  rw [HF.out]
  go_wp2_with fail
  refine (limits_any _).mono ?_
  rintro e w3 ⟨rfl, hb3⟩
  have cb3 : w3.cell? ⟨w.heap.size, 0, none⟩ = some (.int .i64 ref) := (hb3.cell (p := ⟨_, _, none⟩) hz2).trans cb2
  have hB3 : Below w.heap.size w w3 := hB2.trans (hb3.mono (Nat.le_of_lt hz2))
  have hz3 : w.heap.size < w3.heap.size := Nat.lt_of_lt_of_le hz2 hb3.size
  clear hb3 hB2 cb2 hz2
  go_wp2_with fail
  refine (check_ok _ n c R _ hn hc (HR.out.below hB3) ok.out).mono ?_
  rintro e w4 ⟨rfl, hb4⟩
  have cb4 : w4.cell? ⟨w.heap.size, 0, none⟩ = some (.int .i64 ref) := (hb4.cell (p := ⟨_, _, none⟩) hz3).trans cb3
  have hB4 : Below w.heap.size w w4 := hB3.trans (hb4.mono (Nat.le_of_lt hz3))
  have hz4 : w.heap.size < w4.heap.size := Nat.lt_of_lt_of_le hz3 hb4.size
  clear hb4 hB3 cb3 hz3
  obtain ⟨g0, g1, g2, g3, g4⟩ := HC.out w4 hB4
  have r1 : IntKind.i64.wrap (rml - rl) = rml - rl := IntWalk.i64_in _ (by omega)
  have r2 : IntKind.i64.wrap (rmc - rc) = rmc - rc := IntWalk.i64_in _ (by omega)
  go_wp2_with fail
  go_quiet (fail)
  clear r1 r2
  go_wp2_with fail
  refine (take_ok _ n c R ref _ _ k _ hn hc (HR.out.below (below_drewN (hB4.alloc (Nat.le_of_lt hz4) _) _)) ok.out HF.out hk (by rw [HK.out]; exact HT2.out)).mono ?_
  rintro e w6 ⟨v6, rfl, _, hb6⟩
  go_wp2_with fail
  go_ret
  exact ⟨rfl, (below_drewN (hB4.alloc (Nat.le_of_lt hz4) _) _).trans (hb6.mono (by show w.heap.size ≤ (w4.alloc _).heap.size; simp; omega))⟩
set_option maxRecDepth 100000 in
set_option maxHeartbeats 2000000 in
theorem full_no2 (A : Option Addr) (n c : Nat) (R : Nat → LRow) (ref l d : Int) (w : World) (hn : n ≤ c) (hc : c ≤ 9223372036854775807) (hR : Rd w 5 (rowC R) A n) (k : Nat) (h : OkL R n) (hf : ixOf (refB R ref) n = k) (hk : k < n) (a1 : 0 ≤ l ∧ l ≤ 1073741824) (a2 : 0 ≤ d ∧ d ≤ 1073741824) (q1 : l ≤ (R k).maxL - (R k).letters) (q2 : (R k).maxC - (R k).cells < d) :
    Calls Try.prog 3 #[.slice A n c, .int .i64 ref, .int .i64 l, .int .i64 d] w fun e w' => e = .returned (.bool true) ∧ Below w.heap.size w w' := by
  have ok := Lib.hid h
  have HF := Lib.hid hf
  have hfine := (h.2 k hk).1
  have HRR := Lib.hid hR
  obtain ⟨b, off, hA, hb0, hcell⟩ := hR (by omega)
  subst hA
  have c0 : w.cell? ⟨b, off + k * 5, none⟩ = some (.int .i64 (R k).ref) := hcell k hk 0 _ rfl
  have c1 : w.cell? ⟨b, off + k * 5 + 1, none⟩ = some (.int .i64 (R k).letters) := hcell k hk 1 _ rfl
  have c2 : w.cell? ⟨b, off + k * 5 + 2, none⟩ = some (.int .i64 (R k).cells) := hcell k hk 2 _ rfl
  have c3 : w.cell? ⟨b, off + k * 5 + 3, none⟩ = some (.int .i64 (R k).maxL) := hcell k hk 3 _ rfl
  have c4 : w.cell? ⟨b, off + k * 5 + 4, none⟩ = some (.int .i64 (R k).maxC) := hcell k hk 4 _ rfl
  have HT2 := Lib.hid (show OkT (R k) (l) ((R k).maxC - (R k).cells) by unfold OkT; unfold FineL at hfine; omega)
  have HT := Lib.hid (show ¬ OkT (R k) l d by unfold OkT; omega)
  obtain ⟨r, hr⟩ : ∃ r, R k = r := ⟨_, rfl⟩
  rw [hr] at c0 c1 c2 c3 c4 hfine q1 q2 HT2
  have HK := Lib.hid hr
  obtain ⟨rr, rl, rc, rml, rmc⟩ := r
  unfold FineL at hfine
  dsimp only at c0 c1 c2 c3 c4 hfine q1 q2 HT2
  obtain ⟨f1, f2, f3, f4, f5, f6⟩ := hfine
  obtain ⟨a1, a1'⟩ := a1
  obtain ⟨a2, a2'⟩ := a2
  have b0 : decide (l < 0) = false := by simp; omega
  have b1 : decide (d < 0) = false := by simp; omega
  have b2 : decide (1073741824 < l) = false := by simp; omega
  have b3 : decide (1073741824 < d) = false := by simp; omega
  have HC := Lib.hid (show ∀ W : World, Below w.heap.size w W → W.cell? ⟨b, off + k * 5, none⟩ = some (.int .i64 rr) ∧ W.cell? ⟨b, off + k * 5 + 1, none⟩ = some (.int .i64 rl) ∧ W.cell? ⟨b, off + k * 5 + 2, none⟩ = some (.int .i64 rc) ∧ W.cell? ⟨b, off + k * 5 + 3, none⟩ = some (.int .i64 rml) ∧ W.cell? ⟨b, off + k * 5 + 4, none⟩ = some (.int .i64 rmc) from fun W hW => by
    have hw1 : ∀ o, W.cell? ⟨b, o, none⟩ = w.cell? ⟨b, o, none⟩ := fun o => hW.cell (p := ⟨b, o, none⟩) hb0
    simp only [hw1]
    exact ⟨c0, c1, c2, c3, c4⟩)
  clear h hf hr hcell hR c0 c1 c2 c3 c4
  have HR := HRR
  clear HRR
  go_enter Try.func3, Try.ntmps3
  go_wp2_with fail
  refine (take_err1 _ n c R ref l d k _ hn hc (HR.out.alloc _) ok.out HF.out hk HT.out).mono ?_
  rintro e w1 ⟨x, rfl, hx, hb1⟩
  have hx1 : (x != 0) = true := by simpa using hx
  have hx2 : (x == 0) = false := by simpa using hx
  clear hx
  have hB1 : Below w.heap.size w w1 := ((Below.refl _ _).alloc (Nat.le_refl _) _).trans (hb1.mono (by simp))
  have hz1 : w.heap.size < w1.heap.size := by have := hb1.size; simp at this; omega
  have cb : w1.cell? ⟨w.heap.size, 0, none⟩ = some (.int .i64 ref) := (hb1.cell (p := ⟨_, _, none⟩) (by simp)).trans (by simp)
  clear hb1
  go_wp2_with fail
  refine (ixRef_any _ n c w.heap.size R ref _ (by omega) (HR.out.below hB1) hz1 cb).mono ?_
  rintro e w2 ⟨rfl, hb2⟩
  have cb2 : w2.cell? ⟨w.heap.size, 0, none⟩ = some (.int .i64 ref) := (hb2.cell (p := ⟨_, _, none⟩) hz1).trans cb
  have hB2 : Below w.heap.size w w2 := hB1.trans (hb2.mono (Nat.le_of_lt hz1))
  have hz2 : w.heap.size < w2.heap.size := Nat.lt_of_lt_of_le hz1 hb2.size
  clear hb2 hB1 cb hz1
  rw [HF.out]
  go_wp2_with fail
  refine (limits_any _).mono ?_
  rintro e w3 ⟨rfl, hb3⟩
  have cb3 : w3.cell? ⟨w.heap.size, 0, none⟩ = some (.int .i64 ref) := (hb3.cell (p := ⟨_, _, none⟩) hz2).trans cb2
  have hB3 : Below w.heap.size w w3 := hB2.trans (hb3.mono (Nat.le_of_lt hz2))
  have hz3 : w.heap.size < w3.heap.size := Nat.lt_of_lt_of_le hz2 hb3.size
  clear hb3 hB2 cb2 hz2
  go_wp2_with fail
  refine (check_ok _ n c R _ hn hc (HR.out.below hB3) ok.out).mono ?_
  rintro e w4 ⟨rfl, hb4⟩
  have cb4 : w4.cell? ⟨w.heap.size, 0, none⟩ = some (.int .i64 ref) := (hb4.cell (p := ⟨_, _, none⟩) hz3).trans cb3
  have hB4 : Below w.heap.size w w4 := hB3.trans (hb4.mono (Nat.le_of_lt hz3))
  have hz4 : w.heap.size < w4.heap.size := Nat.lt_of_lt_of_le hz3 hb4.size
  clear hb4 hB3 cb3 hz3
  obtain ⟨g0, g1, g2, g3, g4⟩ := HC.out w4 hB4
  have r1 : IntKind.i64.wrap (rml - rl) = rml - rl := IntWalk.i64_in _ (by omega)
  have r2 : IntKind.i64.wrap (rmc - rc) = rmc - rc := IntWalk.i64_in _ (by omega)
  go_wp2_with fail
  go_quiet (fail)
  clear r1 r2
  have qd : decide (d ≤ rmc - rc) = false := by simp; omega
  go_wp2_with fail
  refine (take_ok _ n c R ref _ _ k _ hn hc (HR.out.below (below_drewN (hB4.alloc (Nat.le_of_lt hz4) _) _)) ok.out HF.out hk (by rw [HK.out]; exact HT2.out)).mono ?_
  rintro e w6 ⟨v6, rfl, _, hb6⟩
  go_wp2_with fail
  go_ret
  exact ⟨rfl, (below_drewN (hB4.alloc (Nat.le_of_lt hz4) _) _).trans (hb6.mono (by show w.heap.size ≤ (w4.alloc _).heap.size; simp; omega))⟩
set_option maxRecDepth 100000 in
set_option maxHeartbeats 2000000 in
theorem full_no3 (A : Option Addr) (n c : Nat) (R : Nat → LRow) (ref l d : Int) (w : World) (hn : n ≤ c) (hc : c ≤ 9223372036854775807) (hR : Rd w 5 (rowC R) A n) (k : Nat) (h : OkL R n) (hf : ixOf (refB R ref) n = k) (hk : k < n) (a1 : 0 ≤ l ∧ l ≤ 1073741824) (a2 : 0 ≤ d ∧ d ≤ 1073741824) (q1 : (R k).maxL - (R k).letters < l) (q2 : (R k).maxC - (R k).cells < d) :
    Calls Try.prog 3 #[.slice A n c, .int .i64 ref, .int .i64 l, .int .i64 d] w fun e w' => e = .returned (.bool true) ∧ Below w.heap.size w w' := by
  have ok := Lib.hid h
  have HF := Lib.hid hf
  have hfine := (h.2 k hk).1
  have HRR := Lib.hid hR
  obtain ⟨b, off, hA, hb0, hcell⟩ := hR (by omega)
  subst hA
  have c0 : w.cell? ⟨b, off + k * 5, none⟩ = some (.int .i64 (R k).ref) := hcell k hk 0 _ rfl
  have c1 : w.cell? ⟨b, off + k * 5 + 1, none⟩ = some (.int .i64 (R k).letters) := hcell k hk 1 _ rfl
  have c2 : w.cell? ⟨b, off + k * 5 + 2, none⟩ = some (.int .i64 (R k).cells) := hcell k hk 2 _ rfl
  have c3 : w.cell? ⟨b, off + k * 5 + 3, none⟩ = some (.int .i64 (R k).maxL) := hcell k hk 3 _ rfl
  have c4 : w.cell? ⟨b, off + k * 5 + 4, none⟩ = some (.int .i64 (R k).maxC) := hcell k hk 4 _ rfl
  have HT2 := Lib.hid (show OkT (R k) ((R k).maxL - (R k).letters) ((R k).maxC - (R k).cells) by unfold OkT; unfold FineL at hfine; omega)
  have HT := Lib.hid (show ¬ OkT (R k) l d by unfold OkT; omega)
  obtain ⟨r, hr⟩ : ∃ r, R k = r := ⟨_, rfl⟩
  rw [hr] at c0 c1 c2 c3 c4 hfine q1 q2 HT2
  have HK := Lib.hid hr
  obtain ⟨rr, rl, rc, rml, rmc⟩ := r
  unfold FineL at hfine
  dsimp only at c0 c1 c2 c3 c4 hfine q1 q2 HT2
  obtain ⟨f1, f2, f3, f4, f5, f6⟩ := hfine
  obtain ⟨a1, a1'⟩ := a1
  obtain ⟨a2, a2'⟩ := a2
  have b0 : decide (l < 0) = false := by simp; omega
  have b1 : decide (d < 0) = false := by simp; omega
  have b2 : decide (1073741824 < l) = false := by simp; omega
  have b3 : decide (1073741824 < d) = false := by simp; omega
  have HC := Lib.hid (show ∀ W : World, Below w.heap.size w W → W.cell? ⟨b, off + k * 5, none⟩ = some (.int .i64 rr) ∧ W.cell? ⟨b, off + k * 5 + 1, none⟩ = some (.int .i64 rl) ∧ W.cell? ⟨b, off + k * 5 + 2, none⟩ = some (.int .i64 rc) ∧ W.cell? ⟨b, off + k * 5 + 3, none⟩ = some (.int .i64 rml) ∧ W.cell? ⟨b, off + k * 5 + 4, none⟩ = some (.int .i64 rmc) from fun W hW => by
    have hw1 : ∀ o, W.cell? ⟨b, o, none⟩ = w.cell? ⟨b, o, none⟩ := fun o => hW.cell (p := ⟨b, o, none⟩) hb0
    simp only [hw1]
    exact ⟨c0, c1, c2, c3, c4⟩)
  clear h hf hr hcell hR c0 c1 c2 c3 c4
  have HR := HRR
  clear HRR
  go_enter Try.func3, Try.ntmps3
  go_wp2_with fail
  refine (take_err1 _ n c R ref l d k _ hn hc (HR.out.alloc _) ok.out HF.out hk HT.out).mono ?_
  rintro e w1 ⟨x, rfl, hx, hb1⟩
  have hx1 : (x != 0) = true := by simpa using hx
  have hx2 : (x == 0) = false := by simpa using hx
  clear hx
  have hB1 : Below w.heap.size w w1 := ((Below.refl _ _).alloc (Nat.le_refl _) _).trans (hb1.mono (by simp))
  have hz1 : w.heap.size < w1.heap.size := by have := hb1.size; simp at this; omega
  have cb : w1.cell? ⟨w.heap.size, 0, none⟩ = some (.int .i64 ref) := (hb1.cell (p := ⟨_, _, none⟩) (by simp)).trans (by simp)
  clear hb1
  go_wp2_with fail
  refine (ixRef_any _ n c w.heap.size R ref _ (by omega) (HR.out.below hB1) hz1 cb).mono ?_
  rintro e w2 ⟨rfl, hb2⟩
  have cb2 : w2.cell? ⟨w.heap.size, 0, none⟩ = some (.int .i64 ref) := (hb2.cell (p := ⟨_, _, none⟩) hz1).trans cb
  have hB2 : Below w.heap.size w w2 := hB1.trans (hb2.mono (Nat.le_of_lt hz1))
  have hz2 : w.heap.size < w2.heap.size := Nat.lt_of_lt_of_le hz1 hb2.size
  clear hb2 hB1 cb hz1
  rw [HF.out]
  go_wp2_with fail
  refine (limits_any _).mono ?_
  rintro e w3 ⟨rfl, hb3⟩
  have cb3 : w3.cell? ⟨w.heap.size, 0, none⟩ = some (.int .i64 ref) := (hb3.cell (p := ⟨_, _, none⟩) hz2).trans cb2
  have hB3 : Below w.heap.size w w3 := hB2.trans (hb3.mono (Nat.le_of_lt hz2))
  have hz3 : w.heap.size < w3.heap.size := Nat.lt_of_lt_of_le hz2 hb3.size
  clear hb3 hB2 cb2 hz2
  go_wp2_with fail
  refine (check_ok _ n c R _ hn hc (HR.out.below hB3) ok.out).mono ?_
  rintro e w4 ⟨rfl, hb4⟩
  have cb4 : w4.cell? ⟨w.heap.size, 0, none⟩ = some (.int .i64 ref) := (hb4.cell (p := ⟨_, _, none⟩) hz3).trans cb3
  have hB4 : Below w.heap.size w w4 := hB3.trans (hb4.mono (Nat.le_of_lt hz3))
  have hz4 : w.heap.size < w4.heap.size := Nat.lt_of_lt_of_le hz3 hb4.size
  clear hb4 hB3 cb3 hz3
  obtain ⟨g0, g1, g2, g3, g4⟩ := HC.out w4 hB4
  have r1 : IntKind.i64.wrap (rml - rl) = rml - rl := IntWalk.i64_in _ (by omega)
  have r2 : IntKind.i64.wrap (rmc - rc) = rmc - rc := IntWalk.i64_in _ (by omega)
  go_wp2_with fail
  go_quiet (fail)
  clear r1 r2
  go_wp2_with fail
  refine (take_ok _ n c R ref _ _ k _ hn hc (HR.out.below (below_drewN (hB4.alloc (Nat.le_of_lt hz4) _) _)) ok.out HF.out hk (by rw [HK.out]; exact HT2.out)).mono ?_
  rintro e w6 ⟨v6, rfl, _, hb6⟩
  go_wp2_with fail
  go_ret
  exact ⟨rfl, (below_drewN (hB4.alloc (Nat.le_of_lt hz4) _) _).trans (hb6.mono (by show w.heap.size ≤ (w4.alloc _).heap.size; simp; omega))⟩
theorem limitFull_go (A : Option Addr) (n c : Nat) (R : Nat → LRow) (ref l d : Int) (w : World) (hn : n ≤ c) (hc : c ≤ 9223372036854775807) (hR : Rd w 5 (rowC R) A n) :
    Calls Try.prog 3 #[.slice A n c, .int .i64 ref, .int .i64 l, .int .i64 d] w fun e w' => e = .returned (.bool true) ∧ Below w.heap.size w w' := by
  by_cases ok : OkL R n
  · rcases ixOf_cases (refB R ref) n with ⟨e, _⟩ | ⟨k, e, hk, _, _⟩
    · exact full_none A n c R ref l d w hn hc hR ok e
    · by_cases p1 : l < 0
      · exact full_neg1 A n c R ref l d w hn hc hR k ok e hk p1
      by_cases p2 : d < 0
      · exact full_neg2 A n c R ref l d w hn hc hR k ok e hk (by omega) p2
      by_cases p3 : 1073741824 < l
      · exact full_big1 A n c R ref l d w hn hc hR k ok e hk (by omega) (by omega) p3
      by_cases p4 : 1073741824 < d
      · exact full_big2 A n c R ref l d w hn hc hR k ok e hk (by omega) (by omega) (by omega) p4
      by_cases q1 : l ≤ (R k).maxL - (R k).letters
      · by_cases q2 : d ≤ (R k).maxC - (R k).cells
        · exact full_yes A n c R ref l d w hn hc hR k ok e hk (by omega) (by omega) q1 q2
        · exact full_no2 A n c R ref l d w hn hc hR k ok e hk (by omega) (by omega) q1 (by omega)
      · by_cases q2 : d ≤ (R k).maxC - (R k).cells
        · exact full_no1 A n c R ref l d w hn hc hR k ok e hk (by omega) (by omega) (by omega) q2
        · exact full_no3 A n c R ref l d w hn hc hR k ok e hk (by omega) (by omega) (by omega) (by omega)
  · exact full_bad A n c R ref l d w hn hc hR ok
set_option maxRecDepth 100000 in
theorem open_lrows {H : Type} {enc : TypeId × Value → H} {W : World} {base : Nat} {v : Value} {d : DataW H} {p : List MemPlace} (k0 : Value.okWide Try.prog W .any base 22 v) (h0 : DataW.Trod enc Try.prog W 0 (fun _ => true) true 22 v d p) :
    ∃ A n c R, v = .slice A n c ∧ n ≤ c ∧ c ≤ 9223372036854775807 ∧ (A = none → n = 0) ∧ Rd W 5 (rowC R) A n := by
  obtain ⟨a0, l0, cp0, rfl⟩ := okWide_slice Try.underlying22 k0
  obtain ⟨fuel, hf⟩ := h0
  obtain ⟨A, n, c, C, hcs, hnc, hcm, hA, hR, hlen, hel⟩ := open_rows Try.underlying22 (sz := 5) (by kernel_rfl) (by omega) hf
  have hv : Value.slice a0 l0 cp0 = .slice A n c := by simpa [Value.cells] using hcs
  have hall : ∀ i, ∃ q : LRow, i < n → C i = rowC (fun _ => q) i := fun i => by
    by_cases hi : i < n
    · obtain ⟨m, y, hy⟩ := hel i hi
      have hf := trod_fields Try.underlying28 (by kernel_rfl) hy
      match hC : C i, hlen i with
      | [c0, c1, c2, c3, c4], _ =>
        rw [hC] at hf
        obtain ⟨m0, y0, h0⟩ := hf 0 _ c0 rfl rfl
        obtain ⟨m1, y1, h1⟩ := hf 1 _ c1 rfl rfl
        obtain ⟨m2, y2, h2⟩ := hf 2 _ c2 rfl rfl
        obtain ⟨m3, y3, h3⟩ := hf 3 _ c3 rfl rfl
        obtain ⟨m4, y4, h4⟩ := hf 4 _ c4 rfl rfl
        obtain ⟨z0, e0, _, _⟩ := DataW.trod_int Try.underlying3 h0
        obtain ⟨z1, e1, _, _⟩ := DataW.trod_int Try.underlying3 h1
        obtain ⟨z2, e2, _, _⟩ := DataW.trod_int Try.underlying3 h2
        obtain ⟨z3, e3, _, _⟩ := DataW.trod_int Try.underlying3 h3
        obtain ⟨z4, e4, _, _⟩ := DataW.trod_int Try.underlying3 h4
        simp at e0 e1 e2 e3 e4
        exact ⟨⟨z0, z1, z2, z3, z4⟩, fun _ => by rw [e0, e1, e2, e3, e4]; rfl⟩
    · exact ⟨⟨0, 0, 0, 0, 0⟩, fun h => absurd h hi⟩
  obtain ⟨Q, hQ⟩ := Classical.axiomOfChoice hall
  exact ⟨A, n, c, Q, hv, hnc, hcm, hA, hR.congr fun k hk => hQ k hk⟩
set_option maxRecDepth 100000 in
theorem limitFull_walk {H : Type} {enc : TypeId × Value → H} (W : World) (base : Nat) (v0 v1 v2 v3 : Value) {d0 d1 d2 d3 : DataW H} {p0 p1 p2 p3 : List MemPlace}
    (k0 : Value.okWide Try.prog W .any base 22 v0) (k1 : Value.okWide Try.prog W .any base 3 v1) (k2 : Value.okWide Try.prog W .any base 3 v2) (k3 : Value.okWide Try.prog W .any base 3 v3)
    (h0 : DataW.Trod enc Try.prog W 0 (fun _ => true) true 22 v0 d0 p0) (h1 : DataW.Trod enc Try.prog W 0 (fun _ => true) true 3 v1 d1 p1)
    (h2 : DataW.Trod enc Try.prog W 0 (fun _ => true) true 3 v2 d2 p2) (h3 : DataW.Trod enc Try.prog W 0 (fun _ => true) true 3 v3 d3 p3) :
    Calls Try.prog 3 #[v0, v1, v2, v3] W fun e W' => e = .returned (.bool true) ∧ Below W.heap.size W W' := by
  obtain ⟨A, n, c, R, rfl, hnc, hcm, hA, hR⟩ := open_lrows k0 h0
  obtain ⟨a1, rfl, _, _, _⟩ := open_int Try.underlying3 k1 h1
  obtain ⟨a2, rfl, _, _, _⟩ := open_int Try.underlying3 k2 h2
  obtain ⟨a3, rfl, _, _, _⟩ := open_int Try.underlying3 k3 h3
  exact limitFull_go A n c R a1 a2 a3 W hnc hcm hR
end Go.Proofs.Ytjcegplockihfaa
