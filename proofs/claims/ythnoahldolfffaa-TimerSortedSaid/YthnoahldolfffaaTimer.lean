/- Package timer: comparing two timers, finding one. -/
import Derived.Test.YthnoahldolfffaaFlat
import Derived.Test.YthnoahldolfffaaKeep
import Derived.Test.YthnoahldolfffaaInts
import Derived.Deep.RegionHeld3
import Derived.Deep.QuietTactic
import Derived.BigQuiet
import Derived.Sort.Grow
namespace Go.Proofs.Ythnoahldolfffaa
open Go.RowKit
set_option linter.unusedVariables false
def cmpI (a b : Int) : Int := if a < b then -1 else if b < a then 1 else 0
theorem isNaN_any (a : Int) (w : World) : Calls Try.prog 39 #[.int .i64 a] w fun e w' => e = .returned (.bool false) ∧ w = w' := by
  go_enter Try.func39, Try.ntmps39
  go_wp2_with fail
  go_ret
  exact ⟨rfl, rfl⟩
theorem compare_any (a b : Int) (w : World) : Calls Try.prog 33 #[.int .i64 a, .int .i64 b] w fun e w' => e = .returned (.int .i64 (cmpI a b)) ∧ w = w' := by
  by_cases h1 : a < b
  · have d1 : decide (a < b) = true := by simpa using h1
    have e1 : cmpI a b = -1 := by simp [cmpI, h1]
    rw [e1]
    clear h1 e1
    go_enter Try.func33, Try.ntmps33
    go_wp2_with (go_at_call 39; refine (isNaN_any _ _).mono ?_; rintro e w' ⟨rfl, rfl⟩)
    go_ret
    exact ⟨rfl, rfl⟩
  by_cases h2 : b < a
  · have d1 : decide (a < b) = false := by simpa using h1
    have d2 : decide (b < a) = true := by simpa using h2
    have e1 : cmpI a b = 1 := by simp [cmpI, h1, h2]
    rw [e1]
    clear h1 h2 e1
    go_enter Try.func33, Try.ntmps33
    go_wp2_with (go_at_call 39; refine (isNaN_any _ _).mono ?_; rintro e w' ⟨rfl, rfl⟩)
    go_ret
    exact ⟨rfl, rfl⟩
  · have d1 : decide (a < b) = false := by simpa using h1
    have d2 : decide (b < a) = false := by simpa using h2
    have e1 : cmpI a b = 0 := by simp [cmpI, h1, h2]
    rw [e1]
    clear h1 h2 e1
    go_enter Try.func33, Try.ntmps33
    go_wp2_with (go_at_call 39; refine (isNaN_any _ _).mono ?_; rintro e w' ⟨rfl, rfl⟩)
    go_ret
    exact ⟨rfl, rfl⟩
def orI (x y : Int) : Int := if x ≠ 0 then x else y
set_option maxHeartbeats 1000000 in
theorem or_any (x y : Int) (b c : Nat) (w : World) (h0 : w.cell? ⟨b, 0, none⟩ = some (.int .i64 x)) (h1 : w.cell? ⟨b, 1, none⟩ = some (.int .i64 y)) :
    Calls Try.prog 32 #[.slice (some ⟨b, 0, none⟩) 2 c] w fun e w' => e = .returned (.int .i64 (orI x y)) ∧ w = w' := by
  by_cases hx : x = 0
  · subst hx
    have e1 : orI 0 y = y := by simp [orI]
    rw [e1]
    clear e1
    go_enter Try.func32, Try.ntmps32
    go_wp2_with fail
    go_loop [5, 8] (fun _ i => ∃ k : Nat, k ≤ 2 ∧ i = .int .i64 k ∧ (k = 2 → y = 0)) (fun _ i => 2 - (intOf i).toNat)
    case atStart => exact ⟨0, by omega, rfl, fun h => by omega⟩
    case round =>
      obtain ⟨k, hk, rfl, hy⟩ := hrel
      have hkk : k = 0 ∨ k = 1 ∨ k = 2 := by omega
      rcases hkk with rfl | rfl | rfl
      · go_wp2_with fail
        go_round
        case rel => exact ⟨1, by omega, rfl, by simp⟩
        case measure => simp [intOf]
      · by_cases hy0 : y = 0
        · subst hy0
          go_wp2_with fail
          go_round
          case rel => exact ⟨2, by omega, rfl, by simp⟩
          case measure => simp [intOf]
        · have d1 : (y != 0) = true := by simpa using hy0
          clear hy0 hy
          go_wp2_with fail
          go_ret
          exact ⟨rfl, rfl⟩
      · have hy0 := hy rfl
        subst hy0
        clear hy
        go_wp2_with fail
        go_ret
        exact ⟨rfl, rfl⟩
  · have e1 : orI x y = x := by simp [orI, hx]
    have d1 : (x != 0) = true := by simpa using hx
    rw [e1]
    clear e1 hx
    go_enter Try.func32, Try.ntmps32
    go_wp2_with fail
    go_loop [5, 8] (fun _ i => i = .int .i64 0) (fun _ i => 2 - (intOf i).toNat)
    case atStart => rfl
    case round =>
      obtain rfl := hrel
      go_wp2_with fail
      go_ret
      exact ⟨rfl, rfl⟩
theorem or_new (x y : Int) (W : World) (t : TypeId) : Calls Try.prog 32 #[.slice (some ⟨W.heap.size, 0, none⟩) 2 2] (W.alloc (.cells #[.int .i64 x, .int .i64 y] t)).drew fun e w' => e = .returned (.int .i64 (orI x y)) ∧ (W.alloc (.cells #[.int .i64 x, .int .i64 y] t)).drew = w' :=
  or_any x y W.heap.size 2 _ (show (W.alloc (.cells #[.int .i64 x, .int .i64 y] t)).cell? _ = _ by simp) (show (W.alloc (.cells #[.int .i64 x, .int .i64 y] t)).cell? _ = _ by simp)
/-- a timer: when, and who -/
structure Du where
  at_ : Int
  id : Int
deriving DecidableEq, Inhabited
def cmpD (x y : Du) : Int := orI (cmpI x.at_ y.at_) (cmpI x.id y.id)
set_option maxHeartbeats 2000000 in
theorem order_any (x y : Du) (w : World) : Calls Try.prog 19 #[.agg #[.int .i64 x.at_, .int .i64 x.id], .agg #[.int .i64 y.at_, .int .i64 y.id]] w fun e w' => e = .returned (.int .i64 (cmpD x y)) ∧ ∃ q os, w' = Go.Sort.grow (w.drewN q) os := by
  obtain ⟨a, i⟩ := x
  obtain ⟨b, j⟩ := y
  unfold cmpD
  dsimp only
  obtain ⟨W0, hW0⟩ : ∃ W0, W0 = (w.alloc (.cells #[.int .i64 a, .int .i64 i] 34)).alloc (.cells #[.int .i64 b, .int .i64 j] 34) := ⟨_, rfl⟩
  have HW0 := Lib.hid hW0
  obtain ⟨q0, q1, q2, q3⟩ := (show W0.cell? ⟨w.heap.size, 0, none⟩ = some (.int .i64 a) ∧ W0.cell? ⟨w.heap.size + 1, 0, none⟩ = some (.int .i64 b) ∧ W0.cell? ⟨w.heap.size, 1, none⟩ = some (.int .i64 i) ∧ W0.cell? ⟨w.heap.size + 1, 1, none⟩ = some (.int .i64 j) by rw [hW0]; simp [go_sem])
  go_enter Try.func19, Try.ntmps19
  go_wp2_with fail
  rw [← hW0]
  clear hW0
  go_region_held3 (fun W => W.cell? ⟨w.heap.size, 0, none⟩ = some (.int .i64 a) ∧ W.cell? ⟨w.heap.size + 1, 0, none⟩ = some (.int .i64 b) ∧ W.cell? ⟨w.heap.size, 1, none⟩ = some (.int .i64 i) ∧ W.cell? ⟨w.heap.size + 1, 1, none⟩ = some (.int .i64 j)) (first | exact ⟨q0, q1, q2, q3⟩ | go_keep)
    (first
      | (go_at_call 33; refine (compare_any _ _ _).mono ?_; rintro e w1 ⟨rfl, rfl⟩)
      | (go_at_call 32; refine (or_new _ _ _ _).mono ?_; rintro e w1 ⟨rfl, rfl⟩))
  all_goals
    go_wp2_with fail
    go_ret
    refine ⟨rfl, 1, #[.cells #[.int .i64 a, .int .i64 i] 34, .cells #[.int .i64 b, .int .i64 j] 34, .cells #[.int .i64 (cmpI a b), .int .i64 (cmpI i j)] 3], ?_⟩
    show _ = Go.Sort.grow w.drew _
    rw [HW0.out, Go.Sort.alloc_eq_grow, Go.Sort.alloc_eq_grow, Go.Sort.alloc_eq_grow, Go.Sort.grow_grow, Go.Sort.grow_grow]
    rfl
theorem below_grow (w : World) (os : Array Obj) : Below w.heap.size w (Go.Sort.grow w os) := by
  refine ⟨rfl, rfl, rfl, by simp [Go.Sort.grow], fun k hk => ?_⟩
  simp [Go.Sort.grow, Array.getElem?_append_left hk]
theorem order_below (x y : Du) (w : World) : Calls Try.prog 19 #[.agg #[.int .i64 x.at_, .int .i64 x.id], .agg #[.int .i64 y.at_, .int .i64 y.id]] w fun e w' => e = .returned (.int .i64 (cmpD x y)) ∧ Below w.heap.size w w' := by
  refine (order_any x y w).mono ?_
  rintro e w' ⟨he, q, os, rfl⟩
  exact ⟨he, (below_drewN (Below.refl w.heap.size w) q).trans (show Below w.heap.size (w.drewN q) _ from below_grow (w.drewN q) os)⟩
def duC (R : Nat → Du) : Nat → List Value := fun k => [.int .i64 (R k).at_, .int .i64 (R k).id]
theorem duC_len (R : Nat → Du) : ∀ k, (duC R k).length = 2 := fun _ => rfl
theorem duC_one (R : Nat → Du) : ∀ k u, u ∈ duC R k → u.oneCell' = true := fun k u h => by
  simp [duC] at h
  rcases h with rfl | rfl <;> rfl
set_option maxHeartbeats 400000 in
theorem ixD_any (I : World → Prop) (A : Option Addr) (b off n c f : Nat) (cp : Array Value) (g0 g1 : Nat → Value) (p : Nat → Bool) (w : World) (hn : n ≤ 9223372036854775807)
    (hA : 0 < n → A = some ⟨b, off, none⟩) (he : Enters Try.prog f)
    (hc : ∀ W, I W → ∀ k, k < n → W.cell? ⟨b, off + k * 2, none⟩ = some (g0 k) ∧ W.cell? ⟨b, off + k * 2 + 1, none⟩ = some (g1 k))
    (hf : ∀ W, I W → ∀ k, k < n → Calls Try.prog f (#[.agg #[g0 k, g1 k]] ++ cp) W fun e W' => e = .returned (.bool (p k)) ∧ I W') (hw : I w) :
    Calls Try.prog 34 #[.slice A n c, .func (.func f) #[] cp] w fun e w' => e = .returned (.int .i64 (ixOf p n)) ∧ I w' := by
  have HC := Lib.hid hc
  have HF := Lib.hid hf
  have HA := Lib.hid hA
  have HE := Lib.hid he
  clear hc hf hA he
  go_enter Try.func34, Try.ntmps34
  go_wp2_with fail
  go_loopw [5, 4, 8] (fun _ _ i wr => ∃ k : Nat, k ≤ n ∧ i = .int .i64 k ∧ (∀ j, j < k → p j = false) ∧ I wr) (fun _ _ i _ => n - (intOf i).toNat)
  case atStart => exact ⟨0, Nat.zero_le _, rfl, fun j hj => by omega, hw⟩
  case round =>
    obtain ⟨k, hk, rfl, hlow, hI⟩ := hrel
    have HL := Lib.hid hlow
    clear hlow
    by_cases hlt : k < n
    · obtain rfl := HA.out (by omega)
      obtain ⟨hc0, hc1⟩ := HC.out wr hI k hlt
      have hen := HE.out (#[.agg #[g0 k, g1 k]] ++ cp) wr
      go_wp2_with fail
      refine (HF.out wr hI k hlt).mono ?_
      rintro e W' ⟨rfl, hI'⟩
      by_cases hp : p k = true
      · clear hc0 hc1 hen
        go_wp2_with fail
        go_ret
        exact ⟨ret_int (ixOf_found hlt hp HL.out).symm, hI'⟩
      · have hp' : p k = false := by simpa using hp
        clear hc0 hc1 hen hp
        go_wp2_with fail
        go_roundw
        case rel =>
          refine ⟨k + 1, by omega, by go_num, fun j hj => ?_, hI'⟩
          by_cases e : j = k
          · rw [e]; exact hp'
          · exact HL.out j (by omega)
        case measure => simp [intOf]; omega
    · go_wp2_with fail
      go_ret
      exact ⟨ret_int (ixOf_none fun j hj => HL.out j (by omega)).symm, hI⟩

theorem ixD_rd (A : Option Addr) (n c f : Nat) (cp : Array Value) (g0 g1 : Nat → Value) (p : Nat → Bool) (w : World) (hn : n ≤ 9223372036854775807)
    (hR : Rd w 2 (fun k => [g0 k, g1 k]) A n) (he : Enters Try.prog f)
    (hf : ∀ W, Below w.heap.size w W → ∀ k, k < n → Calls Try.prog f (#[.agg #[g0 k, g1 k]] ++ cp) W fun e W' => e = .returned (.bool (p k)) ∧ Below w.heap.size w W') :
    Calls Try.prog 34 #[.slice A n c, .func (.func f) #[] cp] w fun e w' => e = .returned (.int .i64 (ixOf p n)) ∧ Below w.heap.size w w' := by
  by_cases h0 : 0 < n
  · obtain ⟨b, off, hA, hb, hc⟩ := hR h0
    refine ixD_any (fun W => Below w.heap.size w W) A b off n c f cp g0 g1 p w hn (fun _ => hA) he (fun W hW k hk => ?_) hf (Below.refl _ _)
    have hcell : ∀ o, W.cell? ⟨b, o, none⟩ = w.cell? ⟨b, o, none⟩ := fun o => hW.cell (p := ⟨b, o, none⟩) hb
    simp only [hcell]
    exact ⟨by simpa using hc k hk 0 _ rfl, by simpa using hc k hk 1 _ rfl⟩
  · exact ixD_any (fun W => Below w.heap.size w W) A 0 0 n c f cp g0 g1 p w hn (fun h => absurd h h0) he (fun W hW k hk => by omega) hf (Below.refl _ _)

/-- a closure that compares a timer's id with a captured one -/
def EqDu (fn : Nat) : Prop := ∀ (x : Du) (id : Int) (b : Nat) (w : World), b < w.heap.size → w.cell? ⟨b, 0, none⟩ = some (.int .i64 id) →
  Calls Try.prog fn #[.agg #[.int .i64 x.at_, .int .i64 x.id], .pointer (some ⟨b, 0, none⟩)] w fun e w' => e = .returned (.bool (x.id == id)) ∧ Below w.heap.size w w'
theorem find1_cl : EqDu 35 := fun x id b w hb hc => by
  obtain ⟨a, i⟩ := x
  dsimp only
  go_enter Try.func35, Try.ntmps35
  go_wp2_with fail
  go_ret
  exact ⟨rfl, (Below.refl _ _).alloc (Nat.le_refl _) _⟩
theorem find1_enters : Enters Try.prog 35 := fun _ _ => by kernel_rfl
def idB (R : Nat → Du) (id : Int) : Nat → Bool := fun k => (R k).id == id
theorem find_any (A : Option Addr) (n c : Nat) (R : Nat → Du) (id : Int) (w : World) (hn : n ≤ 9223372036854775807) (hR : Rd w 2 (duC R) A n) :
    Calls Try.prog 20 #[.slice A n c, .int .i64 id] w fun e w' => e = .returned (.int .i64 (ixOf (idB R id) n)) ∧ Below w.heap.size w w' := by
  have HR := Lib.hid hR
  clear hR
  go_enter Try.func20, Try.ntmps20
  go_wp2_with fail
  have HB0 := Lib.hid (show Below w.heap.size w (w.alloc (.cells #[.int .i64 id] 3)) from (Below.refl _ _).alloc (Nat.le_refl _) _)
  refine (ixD_rd A n c 35 #[.pointer (some ⟨w.heap.size, 0, none⟩)] (fun k => .int .i64 (R k).at_) (fun k => .int .i64 (R k).id) (idB R id) _ hn (HR.out.below HB0.out) find1_enters (fun W hW k hk =>
    (find1_cl (R k) id w.heap.size W (by have := hW.size; simp at this; omega) ((hW.cell (p := ⟨_, _, none⟩) (by simp)).trans (by simp))).mono fun e W' ⟨he, hb'⟩ => ⟨he, hW.trans (hb'.mono hW.size)⟩)).mono ?_
  rintro e w1 ⟨rfl, hb1⟩
  have HB1 := Lib.hid (HB0.out.trans (hb1.mono HB0.out.size))
  clear hb1
  go_wp2_with fail
  go_ret
  exact ⟨rfl, HB1.out⟩
end Go.Proofs.Ythnoahldolfffaa
