/- The closed fact of the laws on quotas; rows of quotas as an argument; their sums; two equal rows. -/
import Derived.Test.YtjcegplockihfaaLimitJoin
import Derived.Test.YtjcegplockihfaaOpen
import Derived.WalkLawsBesides
import Derived.RowKit3
namespace Go.Proofs.Ytjcegplockihfaa
open Go.RowKit Go.ChangeShapes Go.WideShapes
set_option linter.unusedVariables false
def oneRow : Nat → LRow := fun _ => ⟨1, 0, 0, 3, 3⟩
theorem oneOk : OkL oneRow 1 := ⟨by omega, fun k hk => ⟨by simp [FineL, oneRow], fun h => by omega⟩⟩
theorem rd_one (w : World) (b : Nat) (hb : b < w.heap.size) (hc : ∀ j u, (rowC oneRow 0)[j]? = some u → w.cell? ⟨b, j, none⟩ = some u) : Rd w 5 (rowC oneRow) (some ⟨b, 0, none⟩) 1 := fun _ => ⟨b, 0, rfl, hb, fun k hk j u hu => by
  obtain rfl : k = 0 := by omega
  simpa using hc j u hu⟩
set_option maxRecDepth 100000 in
set_option maxHeartbeats 1000000 in
theorem limits_any (w : World) : Calls Try.prog 18 #[] w fun e w' => e = .returned (.bool true) ∧ Below w.heap.size w w' := by
  have H : ∀ o : Obj, Rd (w.alloc o) 5 (rowC oneRow) (some ⟨w.heap.size, 0, none⟩) 1 → Calls Try.prog 15 #[.slice (some ⟨w.heap.size, 0, none⟩) 1 1, .int .i64 1, .int .i64 1, .int .i64 2] (w.alloc o) (RowsPost 1 (updF oneRow 0 (taken (oneRow 0) 1 2)) (w.alloc o)) := fun o ho =>
    take_ok _ 1 1 oneRow 1 1 2 0 (w.alloc o) (by omega) (by omega) ho oneOk rfl (by omega) (by simp [OkT, oneRow])
  have H := Lib.hid H
  go_enter Try.func18, Try.ntmps18
  go_wp2_with fail
  refine (H.out _ (rd_one _ _ (by simp) (fun j u hu => ?_))).mono ?_
  · match j, hu with
    | 0, hu => simp [rowC, oneRow] at hu; subst hu; simp
    | 1, hu => simp [rowC, oneRow] at hu; subst hu; simp
    | 2, hu => simp [rowC, oneRow] at hu; subst hu; simp
    | 3, hu => simp [rowC, oneRow] at hu; subst hu; simp
    | 4, hu => simp [rowC, oneRow] at hu; subst hu; simp
    | j + 5, hu => simp [rowC] at hu
  rintro e w1 ⟨v, rfl, hown, hb⟩
  obtain ⟨g, cap, rfl, hbase, hlt, hnc, hcm⟩ := own_form hown (by omega)
  have c1 : w1.cell? ⟨g, 1, none⟩ = some (.int .i64 1) := by
    have := own_row_cell hown (k := 0) (by omega) 1 (by omega)
    simpa [rowC, updF, taken, oneRow] using this
  have c2 : w1.cell? ⟨g, 2, none⟩ = some (.int .i64 2) := by
    have := own_row_cell hown (k := 0) (by omega) 2 (by omega)
    simpa [rowC, updF, taken, oneRow] using this
  clear hown
  go_wp2_with fail
  go_ret
  exact ⟨rfl, ((Below.refl _ _).alloc (Nat.le_refl _) _).trans (hb.mono (by simp))⟩
set_option maxRecDepth 100000 in
theorem open_lrows {H : Type} {enc : TypeId × Value → H} {W : World} {base : Nat} {v : Value} {d : DataW H} {p : List MemPlace} (k0 : Value.okWide Try.prog W .any base 22 v) (h0 : DataW.Trod enc Try.prog W 0 (fun _ => true) true 22 v d p) :
    ∃ A n c R, v = .slice A n c ∧ n ≤ c ∧ c ≤ 9223372036854775807 ∧ (A = none → n = 0) ∧ Rd W 5 (rowC R) A n := by
  obtain ⟨a0, l0, cp0, rfl⟩ := okWide_slice Try.underlying22 k0
  obtain ⟨fuel, hf⟩ := h0
  obtain ⟨A, n, c, C, hcs, hnc, hcm, hA, hR, hlen, hel⟩ := open_rows Try.underlying22 (sz := 5) (by kernel_rfl) (by omega) hf
  have hv : Value.slice a0 l0 cp0 = .slice A n c := by simpa [Value.cells] using hcs
  have hall : ∀ i, ∃ q : LRow, i < n → C i = rowC (fun _ => q) i := fun i => by
    by_cases hi : i < n
    · obtain ⟨m, y, hy⟩ := hel i hi
      have hf := trod_fields Try.underlying28 (by kernel_rfl) hy
      match hC : C i, hlen i with
      | [c0, c1, c2, c3, c4], _ =>
        rw [hC] at hf
        obtain ⟨m0, y0, h0⟩ := hf 0 _ c0 rfl rfl
        obtain ⟨m1, y1, h1⟩ := hf 1 _ c1 rfl rfl
        obtain ⟨m2, y2, h2⟩ := hf 2 _ c2 rfl rfl
        obtain ⟨m3, y3, h3⟩ := hf 3 _ c3 rfl rfl
        obtain ⟨m4, y4, h4⟩ := hf 4 _ c4 rfl rfl
        obtain ⟨z0, e0, _, _⟩ := DataW.trod_int Try.underlying3 h0
        obtain ⟨z1, e1, _, _⟩ := DataW.trod_int Try.underlying3 h1
        obtain ⟨z2, e2, _, _⟩ := DataW.trod_int Try.underlying3 h2
        obtain ⟨z3, e3, _, _⟩ := DataW.trod_int Try.underlying3 h3
        obtain ⟨z4, e4, _, _⟩ := DataW.trod_int Try.underlying3 h4
        simp at e0 e1 e2 e3 e4
        exact ⟨⟨z0, z1, z2, z3, z4⟩, fun _ => by rw [e0, e1, e2, e3, e4]; rfl⟩
    · exact ⟨⟨0, 0, 0, 0, 0⟩, fun h => absurd h hi⟩
  obtain ⟨Q, hQ⟩ := Classical.axiomOfChoice hall
  exact ⟨A, n, c, Q, hv, hnc, hcm, hA, hR.congr fun k hk => hQ k hk⟩
set_option maxRecDepth 100000 in
set_option maxHeartbeats 4000000 in
theorem allows_any (A : Option Addr) (n c : Nat) (R : Nat → LRow) (w : World) (hn : n ≤ c) (hc : c ≤ 9223372036854775807) (hR : Rd w 5 (rowC R) A n) (ok : OkL R n) :
    Calls Try.prog 22 #[.slice A n c] w fun e w' => e = .returned (.agg #[.int .i64 (sumF (mL R) n), .int .i64 (sumF (mC R) n)]) ∧ Below w.heap.size w w' := by
  have HR := Lib.hid hR
  have HB := Lib.hid (sum_bound ok)
  have HOK := Lib.hid ok
  have h100 := ok.1
  clear hR ok
  go_enter Try.func22, Try.ntmps22
  go_wp2_with fail
  go_loopw [5, 8] (fun _ x wr => ∃ k : Nat, k ≤ n ∧ x = .int .i64 k ∧ wr.cell? ⟨w.heap.size + 1, 0, none⟩ = some (.int .i64 (sumF (mL R) k)) ∧ wr.cell? ⟨w.heap.size + 1, 1, none⟩ = some (.int .i64 (sumF (mC R) k)) ∧
    (∀ o, wr.frozen? ⟨w.heap.size + 1, o, none⟩ = false) ∧ (∀ o, wr.frozen? ⟨w.heap.size, o, none⟩ = false) ∧ (∃ u, wr.cell? ⟨w.heap.size, 0, none⟩ = some u) ∧ (∃ u, wr.cell? ⟨w.heap.size, 1, none⟩ = some u) ∧ w.heap.size + 1 < wr.heap.size ∧ Below w.heap.size w wr) (fun _ x _ => n - (intOf x).toNat)
  case atStart => exact ⟨0, by omega, rfl, by simp [go_sem, sumF], by simp [go_sem, sumF], fun o => by simp [go_sem], fun o => by simp [go_sem], ⟨_, by simp [go_sem]; rfl⟩, ⟨_, by simp [go_sem]; rfl⟩, by simp, ((Below.refl _ _).alloc (Nat.le_refl _) _).alloc (by simp) _⟩
  case round =>
    obtain ⟨k, hk, rfl, y0, y1, z1, z0, ⟨u0, x0⟩, ⟨u1, x1⟩, hsz, hB⟩ := hrel
    have HBB := Lib.hid hB
    have hBs := hB.size
    have b0 := HB.out k hk
    generalize hs1 : sumF (mL R) k = sl at *
    generalize hs2 : sumF (mC R) k = sc at *
    have HS1 := Lib.hid hs1
    have HS2 := Lib.hid hs2
    clear hs1 hs2 hB
    by_cases hlt : k < n
    · obtain ⟨b, off, rfl, hb0, hcell⟩ := (HR.out.below HBB.out) (by omega)
      have c0 := hcell k hlt 0 _ rfl
      have c1 := hcell k hlt 1 _ rfl
      have c2 := hcell k hlt 2 _ rfl
      have c3 := hcell k hlt 3 _ rfl
      have c4 := hcell k hlt 4 _ rfl
      simp only [Nat.add_zero] at c0
      have hf := (HOK.out.2 k hlt).1
      unfold FineL at hf
      obtain ⟨f1, f2, f3, f4, f5, f6⟩ := hf
      have HN1 := Lib.hid (show sumF (mL R) (k + 1) = sl + (R k).maxL by rw [sumF, HS1.out]; rfl)
      have HN2 := Lib.hid (show sumF (mC R) (k + 1) = sc + (R k).maxC by rw [sumF, HS2.out]; rfl)
      clear hcell
      generalize R k = r at *
      obtain ⟨r1, r2, r3, r4, r5⟩ := r
      dsimp only at c0 c1 c2 c3 c4 f1 f2 f3 f4 f5 f6 HN1 HN2
      have i1 : (0 : Int) ≤ (k : Int) := by omega
      have i2 : (k : Int) < (n : Int) := by omega
      go_wp2_with fail
      have v0 := (World.cell?_alloc_lt wr (.cells #[.int .i64 r1, .int .i64 r2, .int .i64 r3, .int .i64 r4, .int .i64 r5] 28) ⟨w.heap.size + 1, 0, none⟩ hsz).trans y0
      have v1 := (World.cell?_alloc_lt wr (.cells #[.int .i64 r1, .int .i64 r2, .int .i64 r3, .int .i64 r4, .int .i64 r5] 28) ⟨w.heap.size + 1, 1, none⟩ hsz).trans y1
      have v3 : (wr.alloc (.cells #[.int .i64 r1, .int .i64 r2, .int .i64 r3, .int .i64 r4, .int .i64 r5] 28)).cell? ⟨wr.heap.size, 3, none⟩ = some (.int .i64 r4) := by simp [go_sem]
      have v4 : (wr.alloc (.cells #[.int .i64 r1, .int .i64 r2, .int .i64 r3, .int .i64 r4, .int .i64 r5] 28)).cell? ⟨wr.heap.size, 4, none⟩ = some (.int .i64 r5) := by simp [go_sem]
      have HW := Lib.hid (HBB.out.alloc hBs (.cells #[.int .i64 r1, .int .i64 r2, .int .i64 r3, .int .i64 r4, .int .i64 r5] 28))
      have hzw : (wr.alloc (.cells #[.int .i64 r1, .int .i64 r2, .int .i64 r3, .int .i64 r4, .int .i64 r5] 28)).heap.size = wr.heap.size + 1 := by simp
      have hx0 := (World.cell?_alloc_lt wr (.cells #[.int .i64 r1, .int .i64 r2, .int .i64 r3, .int .i64 r4, .int .i64 r5] 28) ⟨w.heap.size, 0, none⟩ (show w.heap.size < wr.heap.size by omega)).trans x0
      have hx1 := (World.cell?_alloc_lt wr (.cells #[.int .i64 r1, .int .i64 r2, .int .i64 r3, .int .i64 r4, .int .i64 r5] 28) ⟨w.heap.size, 1, none⟩ (show w.heap.size < wr.heap.size by omega)).trans x1
      have t0 : (wr.alloc (.cells #[.int .i64 r1, .int .i64 r2, .int .i64 r3, .int .i64 r4, .int .i64 r5] 28)).frozen? ⟨w.heap.size + 1, 0, none⟩ = false := (frozen?_alloc_cells _ _ _ _).trans (z1 0)
      have t1 : (wr.alloc (.cells #[.int .i64 r1, .int .i64 r2, .int .i64 r3, .int .i64 r4, .int .i64 r5] 28)).frozen? ⟨w.heap.size + 1, 1, none⟩ = false := (frozen?_alloc_cells _ _ _ _).trans (z1 1)
      have Z1 := Lib.hid (fun o => (frozen?_alloc_cells wr #[.int .i64 r1, .int .i64 r2, .int .i64 r3, .int .i64 r4, .int .i64 r5] 28 ⟨w.heap.size + 1, o, none⟩).trans (z1 o))
      have Z0 := Lib.hid (fun o => (frozen?_alloc_cells wr #[.int .i64 r1, .int .i64 r2, .int .i64 r3, .int .i64 r4, .int .i64 r5] 28 ⟨w.heap.size, o, none⟩).trans (z0 o))
      clear y0 y1 z1 z0 x0 x1 c0 c1 c2 c3 c4
      generalize wr.alloc (.cells #[.int .i64 r1, .int .i64 r2, .int .i64 r3, .int .i64 r4, .int .i64 r5] 28) = W at *
      have HX0 := Lib.hid hx0
      have HX1 := Lib.hid hx1
      have HZW := Lib.hid hzw
      clear hx0 hx1 hzw
      go_region
      have hw0 : w.heap.size + 1 < W.heap.size := by rw [HZW.out]; omega
      have hcl0 : (W.cell? ⟨w.heap.size + 1, 0, none⟩).isSome = true := by rw [v0]; rfl
      go_wp2_with fail
      go_roundw
      case rel =>
        refine ⟨k + 1, by omega, by go_num, ?_, ?_, ?_, ?_, ⟨u0, ?_⟩, ⟨u1, ?_⟩, ?_, ?_⟩
        · rw [HN1.out]; simp [go_sem, hcl0]
        · rw [HN2.out]; simp [go_sem, v1]
        · intro o; simp [go_sem]; exact Z1.out o
        · intro o; simp [go_sem]; exact Z0.out o
        · have := HX0.out; simp [go_sem]; exact this
        · have := HX1.out; simp [go_sem]; exact this
        · simpa using hw0
        · exact ((HW.out.drew.setCell (p := ⟨w.heap.size + 1, 0, none⟩) (by simp) _).setCell (p := ⟨w.heap.size + 1, 1, none⟩) (by simp) _)
      case measure => simp [intOf]; omega
    · obtain rfl : k = n := by omega
      go_wp2_with fail
      refine bodyPost_ret (v := .agg #[.int .i64 sl, .int .i64 sc]) (by simp [results, Try.results22, go_sem, x0, x1]) rfl ⟨by rw [HS1.out, HS2.out], ?_⟩
      exact (HBB.out.setCell (p := ⟨w.heap.size, 0, none⟩) (Nat.le_refl _) _).setCell (p := ⟨w.heap.size, 1, none⟩) (Nat.le_refl _) _
set_option maxRecDepth 100000 in
set_option maxHeartbeats 4000000 in
/-- two rows that hold the same -/
theorem equalL_same (A B : Option Addr) (n m c d : Nat) (R : Nat → LRow) (w : World) (hnm : n = m) (hn : n ≤ c) (hc : c ≤ 9223372036854775807) (hR : Rd w 5 (rowC R) A n) (hS : Rd w 5 (rowC R) B m) :
    Calls Try.prog 24 #[.slice A n c, .slice B m d] w fun e w' => e = .returned (.bool true) ∧ Below w.heap.size w w' := by
  subst hnm
  have HR := Lib.hid hR
  have HS := Lib.hid hS
  clear hR hS
  go_enter Try.func24, Try.ntmps24
  go_wp2_with fail
  go_loopw [5, 13] (fun _ x wr => ∃ k : Nat, k ≤ n ∧ x = .int .i64 k ∧ Below w.heap.size w wr) (fun _ x _ => n - (intOf x).toNat)
  case atStart => exact ⟨0, by omega, rfl, Below.refl _ _⟩
  case round =>
    obtain ⟨k, hk, rfl, hB⟩ := hrel
    have HB := Lib.hid hB
    by_cases hlt : k < n
    · obtain ⟨b, off, rfl, hb0, hcell⟩ := (HR.out.below hB) (by omega)
      obtain ⟨b', off', rfl, hb0', hcell'⟩ := (HS.out.below hB) (by omega)
      have c0 := hcell k hlt 0 _ rfl
      have c1 := hcell k hlt 1 _ rfl
      have c2 := hcell k hlt 2 _ rfl
      have c3 := hcell k hlt 3 _ rfl
      have c4 := hcell k hlt 4 _ rfl
      have e0 := hcell' k hlt 0 _ rfl
      have e1 := hcell' k hlt 1 _ rfl
      have e2 := hcell' k hlt 2 _ rfl
      have e3 := hcell' k hlt 3 _ rfl
      have e4 := hcell' k hlt 4 _ rfl
      simp only [Nat.add_zero] at c0 e0
      clear hcell hcell' hB
      generalize R k = r at *
      obtain ⟨r1, r2, r3, r4, r5⟩ := r
      dsimp only at c0 c1 c2 c3 c4 e0 e1 e2 e3 e4
      have i1 : (0 : Int) ≤ (k : Int) := by omega
      have i2 : (k : Int) < (n : Int) := by omega
      go_wp2_with fail
      go_quiet (fail)
      go_wp2_with fail
      go_roundw
      case rel => exact ⟨k + 1, by omega, by go_num, below_drewN HB.out _⟩
      case measure => simp [intOf]; omega
    · obtain rfl : k = n := by omega
      go_wp2_with fail
      go_ret
      exact ⟨rfl, HB.out⟩
end Go.Proofs.Ytjcegplockihfaa
