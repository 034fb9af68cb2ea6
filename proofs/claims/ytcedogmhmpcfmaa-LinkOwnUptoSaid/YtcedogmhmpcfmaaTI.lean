/- Package timer: comparing two timers, finding one. timer.Check. Rows of timers of the call's own: words; slices.Clone and slices.SortFunc over them. slices.DeleteFunc over timers. timer.Set. timer.Go. Equal over equal rows of timers (as in XTimerOps). timer.Set and timer.Go, whatever is asked: the timers are new. -/
import Derived.Test.YtcedogmhmpcfmaaFlat
import Derived.Test.YtcedogmhmpcfmaaKeep
import Derived.Test.YtcedogmhmpcfmaaInts
import Derived.Deep.RegionHeld3
import Derived.Deep.QuietTactic
import Derived.BigQuiet
import Derived.Sort.Grow
import Derived.Deep.DeepCutAuto
import Derived.IntWalk
import Derived.Test.YtcedogmhmpcfmaaSortF
import Derived.Sort.OwnSortedInts
import Derived.Test.YtcedogmhmpcfmaaRowOps
import Derived.Test.YtcedogmhmpcfmaaOwnGeRow
namespace Go.Proofs.Ytcedogmhmpcfmaa.Ti
open Go.RowKit
set_option linter.unusedVariables false
def cmpI (a b : Int) : Int := if a < b then -1 else if b < a then 1 else 0
theorem isNaN_any (a : Int) (w : World) : Calls Try.prog 83 #[.int .i64 a] w fun e w' => e = .returned (.bool false) ∧ w = w' := by
  go_enter Try.func83, Try.ntmps83
  go_wp2_with fail
  go_ret
  exact ⟨rfl, rfl⟩
theorem compare_any (a b : Int) (w : World) : Calls Try.prog 62 #[.int .i64 a, .int .i64 b] w fun e w' => e = .returned (.int .i64 (cmpI a b)) ∧ w = w' := by
  by_cases h1 : a < b
  · have d1 : decide (a < b) = true := by simpa using h1
    have e1 : cmpI a b = -1 := by simp [cmpI, h1]
    rw [e1]
    clear h1 e1
    go_enter Try.func62, Try.ntmps62
    go_wp2_with (go_at_call 83; refine (isNaN_any _ _).mono ?_; rintro e w' ⟨rfl, rfl⟩)
    go_ret
    exact ⟨rfl, rfl⟩
  by_cases h2 : b < a
  · have d1 : decide (a < b) = false := by simpa using h1
    have d2 : decide (b < a) = true := by simpa using h2
    have e1 : cmpI a b = 1 := by simp [cmpI, h1, h2]
    rw [e1]
    clear h1 h2 e1
    go_enter Try.func62, Try.ntmps62
    go_wp2_with (go_at_call 83; refine (isNaN_any _ _).mono ?_; rintro e w' ⟨rfl, rfl⟩)
    go_ret
    exact ⟨rfl, rfl⟩
  · have d1 : decide (a < b) = false := by simpa using h1
    have d2 : decide (b < a) = false := by simpa using h2
    have e1 : cmpI a b = 0 := by simp [cmpI, h1, h2]
    rw [e1]
    clear h1 h2 e1
    go_enter Try.func62, Try.ntmps62
    go_wp2_with (go_at_call 83; refine (isNaN_any _ _).mono ?_; rintro e w' ⟨rfl, rfl⟩)
    go_ret
    exact ⟨rfl, rfl⟩
def orI (x y : Int) : Int := if x ≠ 0 then x else y
set_option maxHeartbeats 1000000 in
theorem or_any (x y : Int) (b c : Nat) (w : World) (h0 : w.cell? ⟨b, 0, none⟩ = some (.int .i64 x)) (h1 : w.cell? ⟨b, 1, none⟩ = some (.int .i64 y)) :
    Calls Try.prog 61 #[.slice (some ⟨b, 0, none⟩) 2 c] w fun e w' => e = .returned (.int .i64 (orI x y)) ∧ w = w' := by
  by_cases hx : x = 0
  · subst hx
    have e1 : orI 0 y = y := by simp [orI]
    rw [e1]
    clear e1
    go_enter Try.func61, Try.ntmps61
    go_wp2_with fail
    go_loop [5, 8] (fun _ i => ∃ k : Nat, k ≤ 2 ∧ i = .int .i64 k ∧ (k = 2 → y = 0)) (fun _ i => 2 - (intOf i).toNat)
    case atStart => exact ⟨0, by omega, rfl, fun h => by omega⟩
    case round =>
      obtain ⟨k, hk, rfl, hy⟩ := hrel
      have hkk : k = 0 ∨ k = 1 ∨ k = 2 := by omega
      rcases hkk with rfl | rfl | rfl
      · go_wp2_with fail
        go_round
        case rel => exact ⟨1, by omega, rfl, by simp⟩
        case measure => simp [intOf]
      · by_cases hy0 : y = 0
        · subst hy0
          go_wp2_with fail
          go_round
          case rel => exact ⟨2, by omega, rfl, by simp⟩
          case measure => simp [intOf]
        · have d1 : (y != 0) = true := by simpa using hy0
          clear hy0 hy
          go_wp2_with fail
          go_ret
          exact ⟨rfl, rfl⟩
      · have hy0 := hy rfl
        subst hy0
        clear hy
        go_wp2_with fail
        go_ret
        exact ⟨rfl, rfl⟩
  · have e1 : orI x y = x := by simp [orI, hx]
    have d1 : (x != 0) = true := by simpa using hx
    rw [e1]
    clear e1 hx
    go_enter Try.func61, Try.ntmps61
    go_wp2_with fail
    go_loop [5, 8] (fun _ i => i = .int .i64 0) (fun _ i => 2 - (intOf i).toNat)
    case atStart => rfl
    case round =>
      obtain rfl := hrel
      go_wp2_with fail
      go_ret
      exact ⟨rfl, rfl⟩
theorem or_new (x y : Int) (W : World) (t : TypeId) : Calls Try.prog 61 #[.slice (some ⟨W.heap.size, 0, none⟩) 2 2] (W.alloc (.cells #[.int .i64 x, .int .i64 y] t)).drew fun e w' => e = .returned (.int .i64 (orI x y)) ∧ (W.alloc (.cells #[.int .i64 x, .int .i64 y] t)).drew = w' :=
  or_any x y W.heap.size 2 _ (show (W.alloc (.cells #[.int .i64 x, .int .i64 y] t)).cell? _ = _ by simp) (show (W.alloc (.cells #[.int .i64 x, .int .i64 y] t)).cell? _ = _ by simp)
/-- a timer: when, and who -/
structure Du where
  at_ : Int
  id : Int
deriving DecidableEq, Inhabited
def cmpD (x y : Du) : Int := orI (cmpI x.at_ y.at_) (cmpI x.id y.id)
set_option maxHeartbeats 2000000 in
theorem order_any (x y : Du) (w : World) : Calls Try.prog 37 #[.agg #[.int .i64 x.at_, .int .i64 x.id], .agg #[.int .i64 y.at_, .int .i64 y.id]] w fun e w' => e = .returned (.int .i64 (cmpD x y)) ∧ ∃ q os, w' = Go.Sort.grow (w.drewN q) os := by
  obtain ⟨a, i⟩ := x
  obtain ⟨b, j⟩ := y
  unfold cmpD
  dsimp only
  obtain ⟨W0, hW0⟩ : ∃ W0, W0 = (w.alloc (.cells #[.int .i64 a, .int .i64 i] 37)).alloc (.cells #[.int .i64 b, .int .i64 j] 37) := ⟨_, rfl⟩
  have HW0 := Lib.hid hW0
  obtain ⟨q0, q1, q2, q3⟩ := (show W0.cell? ⟨w.heap.size, 0, none⟩ = some (.int .i64 a) ∧ W0.cell? ⟨w.heap.size + 1, 0, none⟩ = some (.int .i64 b) ∧ W0.cell? ⟨w.heap.size, 1, none⟩ = some (.int .i64 i) ∧ W0.cell? ⟨w.heap.size + 1, 1, none⟩ = some (.int .i64 j) by rw [hW0]; simp [go_sem])
  go_enter Try.func37, Try.ntmps37
  go_wp2_with fail
  rw [← hW0]
  clear hW0
  go_region_held3 (fun W => W.cell? ⟨w.heap.size, 0, none⟩ = some (.int .i64 a) ∧ W.cell? ⟨w.heap.size + 1, 0, none⟩ = some (.int .i64 b) ∧ W.cell? ⟨w.heap.size, 1, none⟩ = some (.int .i64 i) ∧ W.cell? ⟨w.heap.size + 1, 1, none⟩ = some (.int .i64 j)) (first | exact ⟨q0, q1, q2, q3⟩ | go_keep)
    (first
      | (go_at_call 62; refine (compare_any _ _ _).mono ?_; rintro e w1 ⟨rfl, rfl⟩)
      | (go_at_call 61; refine (or_new _ _ _ _).mono ?_; rintro e w1 ⟨rfl, rfl⟩))
  all_goals
    go_wp2_with fail
    go_ret
    refine ⟨rfl, 1, #[.cells #[.int .i64 a, .int .i64 i] 37, .cells #[.int .i64 b, .int .i64 j] 37, .cells #[.int .i64 (cmpI a b), .int .i64 (cmpI i j)] 3], ?_⟩
    show _ = Go.Sort.grow w.drew _
    rw [HW0.out, Go.Sort.alloc_eq_grow, Go.Sort.alloc_eq_grow, Go.Sort.alloc_eq_grow, Go.Sort.grow_grow, Go.Sort.grow_grow]
    rfl
theorem below_grow (w : World) (os : Array Obj) : Below w.heap.size w (Go.Sort.grow w os) := by
  refine ⟨rfl, rfl, rfl, by simp [Go.Sort.grow], fun k hk => ?_⟩
  simp [Go.Sort.grow, Array.getElem?_append_left hk]
theorem order_below (x y : Du) (w : World) : Calls Try.prog 37 #[.agg #[.int .i64 x.at_, .int .i64 x.id], .agg #[.int .i64 y.at_, .int .i64 y.id]] w fun e w' => e = .returned (.int .i64 (cmpD x y)) ∧ Below w.heap.size w w' := by
  refine (order_any x y w).mono ?_
  rintro e w' ⟨he, q, os, rfl⟩
  exact ⟨he, (below_drewN (Below.refl w.heap.size w) q).trans (show Below w.heap.size (w.drewN q) _ from below_grow (w.drewN q) os)⟩
def duC (R : Nat → Du) : Nat → List Value := fun k => [.int .i64 (R k).at_, .int .i64 (R k).id]
theorem duC_len (R : Nat → Du) : ∀ k, (duC R k).length = 2 := fun _ => rfl
theorem duC_one (R : Nat → Du) : ∀ k u, u ∈ duC R k → u.oneCell' = true := fun k u h => by
  simp [duC] at h
  rcases h with rfl | rfl <;> rfl
set_option maxHeartbeats 400000 in
theorem ixD_any (I : World → Prop) (A : Option Addr) (b off n c f : Nat) (cp : Array Value) (g0 g1 : Nat → Value) (p : Nat → Bool) (w : World) (hn : n ≤ 9223372036854775807)
    (hA : 0 < n → A = some ⟨b, off, none⟩) (he : Enters Try.prog f)
    (hc : ∀ W, I W → ∀ k, k < n → W.cell? ⟨b, off + k * 2, none⟩ = some (g0 k) ∧ W.cell? ⟨b, off + k * 2 + 1, none⟩ = some (g1 k))
    (hf : ∀ W, I W → ∀ k, k < n → Calls Try.prog f (#[.agg #[g0 k, g1 k]] ++ cp) W fun e W' => e = .returned (.bool (p k)) ∧ I W') (hw : I w) :
    Calls Try.prog 58 #[.slice A n c, .func (.func f) #[] cp] w fun e w' => e = .returned (.int .i64 (ixOf p n)) ∧ I w' := by
  have HC := Lib.hid hc
  have HF := Lib.hid hf
  have HA := Lib.hid hA
  have HE := Lib.hid he
  clear hc hf hA he
  go_enter Try.func58, Try.ntmps58
  go_wp2_with fail
  go_loopw [5, 4, 8] (fun _ _ i wr => ∃ k : Nat, k ≤ n ∧ i = .int .i64 k ∧ (∀ j, j < k → p j = false) ∧ I wr) (fun _ _ i _ => n - (intOf i).toNat)
  case atStart => exact ⟨0, Nat.zero_le _, rfl, fun j hj => by omega, hw⟩
  case round =>
    obtain ⟨k, hk, rfl, hlow, hI⟩ := hrel
    have HL := Lib.hid hlow
    clear hlow
    by_cases hlt : k < n
    · obtain rfl := HA.out (by omega)
      obtain ⟨hc0, hc1⟩ := HC.out wr hI k hlt
      have hen := HE.out (#[.agg #[g0 k, g1 k]] ++ cp) wr
      go_wp2_with fail
      refine (HF.out wr hI k hlt).mono ?_
      rintro e W' ⟨rfl, hI'⟩
      by_cases hp : p k = true
      · clear hc0 hc1 hen
        go_wp2_with fail
        go_ret
        exact ⟨ret_int (ixOf_found hlt hp HL.out).symm, hI'⟩
      · have hp' : p k = false := by simpa using hp
        clear hc0 hc1 hen hp
        go_wp2_with fail
        go_roundw
        case rel =>
          refine ⟨k + 1, by omega, by go_num, fun j hj => ?_, hI'⟩
          by_cases e : j = k
          · rw [e]; exact hp'
          · exact HL.out j (by omega)
        case measure => simp [intOf]; omega
    · go_wp2_with fail
      go_ret
      exact ⟨ret_int (ixOf_none fun j hj => HL.out j (by omega)).symm, hI⟩

theorem ixD_rd (A : Option Addr) (n c f : Nat) (cp : Array Value) (g0 g1 : Nat → Value) (p : Nat → Bool) (w : World) (hn : n ≤ 9223372036854775807)
    (hR : Rd w 2 (fun k => [g0 k, g1 k]) A n) (he : Enters Try.prog f)
    (hf : ∀ W, Below w.heap.size w W → ∀ k, k < n → Calls Try.prog f (#[.agg #[g0 k, g1 k]] ++ cp) W fun e W' => e = .returned (.bool (p k)) ∧ Below w.heap.size w W') :
    Calls Try.prog 58 #[.slice A n c, .func (.func f) #[] cp] w fun e w' => e = .returned (.int .i64 (ixOf p n)) ∧ Below w.heap.size w w' := by
  by_cases h0 : 0 < n
  · obtain ⟨b, off, hA, hb, hc⟩ := hR h0
    refine ixD_any (fun W => Below w.heap.size w W) A b off n c f cp g0 g1 p w hn (fun _ => hA) he (fun W hW k hk => ?_) hf (Below.refl _ _)
    have hcell : ∀ o, W.cell? ⟨b, o, none⟩ = w.cell? ⟨b, o, none⟩ := fun o => hW.cell (p := ⟨b, o, none⟩) hb
    simp only [hcell]
    exact ⟨by simpa using hc k hk 0 _ rfl, by simpa using hc k hk 1 _ rfl⟩
  · exact ixD_any (fun W => Below w.heap.size w W) A 0 0 n c f cp g0 g1 p w hn (fun h => absurd h h0) he (fun W hW k hk => by omega) hf (Below.refl _ _)

/-- a closure that compares a timer's id with a captured one -/
def EqDu (fn : Nat) : Prop := ∀ (x : Du) (id : Int) (b : Nat) (w : World), b < w.heap.size → w.cell? ⟨b, 0, none⟩ = some (.int .i64 id) →
  Calls Try.prog fn #[.agg #[.int .i64 x.at_, .int .i64 x.id], .pointer (some ⟨b, 0, none⟩)] w fun e w' => e = .returned (.bool (x.id == id)) ∧ Below w.heap.size w w'
theorem find1_cl : EqDu 72 := fun x id b w hb hc => by
  obtain ⟨a, i⟩ := x
  dsimp only
  go_enter Try.func72, Try.ntmps72
  go_wp2_with fail
  go_ret
  exact ⟨rfl, (Below.refl _ _).alloc (Nat.le_refl _) _⟩
theorem find1_enters : Enters Try.prog 72 := fun _ _ => by kernel_rfl
def idB (R : Nat → Du) (id : Int) : Nat → Bool := fun k => (R k).id == id
theorem find_any (A : Option Addr) (n c : Nat) (R : Nat → Du) (id : Int) (w : World) (hn : n ≤ 9223372036854775807) (hR : Rd w 2 (duC R) A n) :
    Calls Try.prog 57 #[.slice A n c, .int .i64 id] w fun e w' => e = .returned (.int .i64 (ixOf (idB R id) n)) ∧ Below w.heap.size w w' := by
  have HR := Lib.hid hR
  clear hR
  go_enter Try.func57, Try.ntmps57
  go_wp2_with fail
  have HB0 := Lib.hid (show Below w.heap.size w (w.alloc (.cells #[.int .i64 id] 3)) from (Below.refl _ _).alloc (Nat.le_refl _) _)
  refine (ixD_rd A n c 72 #[.pointer (some ⟨w.heap.size, 0, none⟩)] (fun k => .int .i64 (R k).at_) (fun k => .int .i64 (R k).id) (idB R id) _ hn (HR.out.below HB0.out) find1_enters (fun W hW k hk =>
    (find1_cl (R k) id w.heap.size W (by have := hW.size; simp at this; omega) ((hW.cell (p := ⟨_, _, none⟩) (by simp)).trans (by simp))).mono fun e W' ⟨he, hb'⟩ => ⟨he, hW.trans (hb'.mono hW.size)⟩)).mono ?_
  rintro e w1 ⟨rfl, hb1⟩
  have HB1 := Lib.hid (HB0.out.trans (hb1.mono HB0.out.size))
  clear hb1
  go_wp2_with fail
  go_ret
  exact ⟨rfl, HB1.out⟩
end Go.Proofs.Ytcedogmhmpcfmaa.Ti
namespace Go.Proofs.Ytcedogmhmpcfmaa.Ti
open Go.RowKit
set_option linter.unusedVariables false
def OkDu (now : Int) (R : Nat → Du) (i : Nat) : Prop := (now < (R i).at_ ∧ (R i).at_ ≤ 2199023255552) ∧ (0 < i → cmpD (R (i - 1)) (R i) < 0) ∧ ∀ j, j < i → (R j).id ≠ (R i).id
def OkT (now : Int) (R : Nat → Du) (n : Nat) : Prop := n ≤ 100 ∧ (0 ≤ now ∧ now ≤ 1099511627776) ∧ ∀ i, i < n → OkDu now R i
def ChkPost (P : Prop) (w : World) (e : Ending) (w' : World) : Prop := ∃ x : Int, e = .returned (.int .i64 x) ∧ (x = 0 ↔ P) ∧ Below w.heap.size w w'
theorem sizeD (w : World) : (sizeOf (Try.prog.elem 23)).run Try.prog w = .ok 2 w := by kernel_rfl
theorem elemD : Try.prog.underlying 23 = some (.slice (Try.prog.elem 23)) := by kernel_rfl
/-- l[:b] -/
theorem cutD_to (A : Option Addr) (n c : Nat) (R : Nat → Du) (w0 : World) (hnc : n ≤ c) (hR : Rd w0 2 (duC R) A n) (b : Nat) (hb : b ≤ n) :
    ∃ XA, (∀ w, (Instr.sliceAt 23 (.slice A n c) none (some (.int .i64 (b : Int))) none).run Try.prog w = .ok (.slice XA b c) w) ∧ Rd w0 2 (duC R) XA b := by
  refine ⟨if c = 0 then A else A.map (·.add (0 * 2)), fun w => ?_, fun h0 => ?_⟩
  · rw [run_sliceAt_slice _ _ _ _ _ _ elemD, run_slice_h _ _ _ _ _ elemD _ _ (by omega) (by omega), sizeD]
    simp only [Result.andThen, sliced, Int.toNat_natCast, Nat.sub_zero]
  · obtain ⟨bk, off, rfl, hlt, hc⟩ := hR (by omega)
    rw [if_neg (by omega)]
    exact ⟨bk, off, by simp [Go.WideShapes.add_plain], hlt, fun k hk => hc k (by omega)⟩
/-- the box of the timers -/
structure TB (wx : World) (b : Nat) (now : Int) (v : Value) : Prop where
  c0 : wx.cell? ⟨b, 0, none⟩ = some (.int .i64 now)
  c1 : wx.cell? ⟨b, 1, none⟩ = some v
  sz : b < wx.heap.size
theorem TB.below {wx wy : World} {b : Nat} {now : Int} {v : Value} (h : TB wx b now v) (hb : Below wx.heap.size wx wy) : TB wy b now v :=
  ⟨(hb.cell (p := ⟨b, 0, none⟩) h.sz).trans h.c0, (hb.cell (p := ⟨b, 1, none⟩) h.sz).trans h.c1, by have := hb.size; have := h.sz; omega⟩
set_option maxHeartbeats 8000000 in
set_option maxRecDepth 100000 in
theorem check_any (now : Int) (A : Option Addr) (n c : Nat) (R : Nat → Du) (w : World) (hn : n ≤ c) (hc : c ≤ 9223372036854775807) (hR : Rd w 2 (duC R) A n) :
    Calls Try.prog 33 #[.agg #[.int .i64 now, .slice A n c]] w (ChkPost (OkT now R n) w) := by
  have HR := Lib.hid hR
  clear hR
  have HT0 := Lib.hid (show TB (w.alloc (.cells #[.int .i64 now, .slice A n c] 25)) w.heap.size now (.slice A n c) from ⟨by simp, by simp, by simp⟩)
  have HB0 := Lib.hid (show Below w.heap.size w (w.alloc (.cells #[.int .i64 now, .slice A n c] 25)) from (Below.refl _ _).alloc (Nat.le_refl _) _)
  by_cases h100 : 100 < n
  · have e6 : decide ((100 : Int) < (n : Int)) = true := by simp; omega
    have e7 : decide (100 < n) = true := by simpa using h100
    go_enter Try.func33, Try.ntmps33
    go_wp2_with fail
    go_ret
    exact ⟨2, rfl, ⟨fun h => by omega, fun h => by have := h.1; omega⟩, HB0.out⟩
  have e6 : decide ((100 : Int) < (n : Int)) = false := by simp; omega
  have e7 : decide (100 < n) = false := by simpa using h100
  by_cases hnow : 0 ≤ now ∧ now ≤ 1099511627776
  rotate_left
  · by_cases g1 : now < 0
    · have d1 : decide (now < 0) = true := by simpa using g1
      go_enter Try.func33, Try.ntmps33
      go_wp2_with fail
      go_ret
      exact ⟨1, rfl, ⟨fun h => by omega, fun h => by have := h.2.1; omega⟩, HB0.out⟩
    · have d1 : decide (now < 0) = false := by simpa using g1
      have d2 : decide (1099511627776 < now) = true := by simp; omega
      go_enter Try.func33, Try.ntmps33
      go_wp2_with fail
      go_ret
      exact ⟨1, rfl, ⟨fun h => by omega, fun h => by have := h.2.1; omega⟩, HB0.out⟩
  have d1 : decide (now < 0) = false := by simp; omega
  have d2 : decide (1099511627776 < now) = false := by simp; omega
  go_enter Try.func33, Try.ntmps33
  go_wp2_with fail
  go_loopw [2, 3, 4, 22, 27, 38, 52] (fun _ _ _ i _ _ _ wr => ∃ k : Nat, k ≤ n ∧ i = .int .i64 k ∧ (∀ j, j < k → OkDu now R j) ∧ TB wr w.heap.size now (.slice A n c) ∧ Below w.heap.size w wr) (fun _ _ _ i _ _ _ _ => n - (intOf i).toNat)
  case atStart => exact ⟨0, Nat.zero_le _, rfl, fun j hj => by omega, HT0.out, HB0.out⟩
  case round =>
    obtain ⟨k, hk, rfl, hlow, hT, hB⟩ := hrel
    have HL := Lib.hid hlow
    have HB := Lib.hid hB
    have HT := Lib.hid hT
    have hBs := hB.size
    clear hlow hB hT
    by_cases hlt : k < n
    · obtain ⟨b, off, rfl, hb, hcell⟩ := HR.out (by omega)
      have HCELL := Lib.hid (show ∀ k, k < n → wr.cell? ⟨b, off + k * 2, none⟩ = some (.int .i64 (R k).at_) ∧ wr.cell? ⟨b, off + k * 2 + 1, none⟩ = some (.int .i64 (R k).id) from fun k hk => ⟨(HB.out.cell (p := ⟨b, _, none⟩) hb).trans (hcell k hk 0 _ rfl), (HB.out.cell (p := ⟨b, _, none⟩) hb).trans (hcell k hk 1 _ rfl)⟩)
      obtain ⟨c0, c1⟩ := HCELL.out k hlt
      obtain ⟨r, hr⟩ : ∃ r, R k = r := ⟨_, rfl⟩
      rw [hr] at c0 c1
      have HK := Lib.hid hr
      obtain ⟨a, i⟩ := r
      dsimp only at c0 c1
      obtain ⟨b0, b1, bz⟩ := HT.out
      have hbr : b < wr.heap.size := by omega
      have HB2 := Lib.hid (HB.out.alloc hBs (.cells #[.int .i64 a, .int .i64 i] 37))
      have no : ∀ x : Int, x ≠ 0 → ¬ OkDu now R k → ∀ wx, Below w.heap.size w wx → ChkPost (OkT now R n) w (.returned (.int .i64 x)) wx := fun x hx hno wx hbx => ⟨x, rfl, ⟨fun h => absurd h hx, fun h => absurd (h.2.2 k hlt) hno⟩, hbx⟩
      have NO := Lib.hid no
      clear no hr hcell
      by_cases q1 : a ≤ now
      · have d3 : decide (a ≤ now) = true := by simpa using q1
        go_wp2_with fail
        go_ret
        exact NO.out 1 (by omega) (fun h => by have := h.1.1; rw [HK.out] at this; simp at this; omega) _ HB2.out
      have d3 : decide (a ≤ now) = false := by simpa using q1
      by_cases q2 : 2199023255552 < a
      · have d4 : decide (2199023255552 < a) = true := by simpa using q2
        go_wp2_with fail
        go_ret
        exact NO.out 1 (by omega) (fun h => by have := h.1.2; rw [HK.out] at this; simp at this; omega) _ HB2.out
      have d4 : decide (2199023255552 < a) = false := by simpa using q2
      obtain ⟨bad, hbad⟩ : ∃ bad : Bool, bad = (decide (0 < k) && decide (0 ≤ cmpD (R (k - 1)) ⟨a, i⟩)) := ⟨_, rfl⟩
      have HBAD := Lib.hid hbad
      clear hbad
      go_wp2_with fail
      obtain ⟨W1, hW1⟩ : ∃ W1, W1 = wr.alloc (.cells #[.int .i64 a, .int .i64 i] 37) := ⟨_, rfl⟩
      rw [← hW1] at HB2 ⊢
      have hbW : Below wr.heap.size wr W1 := by rw [hW1]; exact (Below.refl _ _).alloc (Nat.le_refl _) _
      have HT1 := Lib.hid (HT.out.below hbW)
      have HC1 := Lib.hid (show ∀ k, k < n → W1.cell? ⟨b, off + k * 2, none⟩ = some (.int .i64 (R k).at_) ∧ W1.cell? ⟨b, off + k * 2 + 1, none⟩ = some (.int .i64 (R k).id) from fun k hk => ⟨(hbW.cell (p := ⟨b, _, none⟩) hbr).trans (HCELL.out k hk).1, (hbW.cell (p := ⟨b, _, none⟩) hbr).trans (HCELL.out k hk).2⟩)
      have e0 : W1.cell? ⟨wr.heap.size, 0, none⟩ = some (.int .i64 a) := by rw [hW1]; simp
      have e1 : W1.cell? ⟨wr.heap.size, 1, none⟩ = some (.int .i64 i) := by rw [hW1]; simp
      have hz1 : wr.heap.size < W1.heap.size := by rw [hW1]; simp
      clear hbW hW1 c0 c1 b0 b1 bz
      have j1 : (k : Int) < (n : Int) := by omega
      have j2 : (0 : Int) ≤ (k : Int) := by omega
      go_cut [38] (fun x wx => x = .bool bad ∧ Below W1.heap.size W1 wx)
      case first =>
        by_cases q4 : 0 < k
        · have d5 : decide ((0 : Int) < (k : Int)) = true := by simp; omega
          have d5' : decide (0 < k) = true := by simpa using q4
          obtain ⟨p, hp⟩ : ∃ p, p = R (k - 1) := ⟨_, rfl⟩
          obtain ⟨p0, p1⟩ := HC1.out (k - 1) (by omega)
          rw [← hp] at p0 p1
          have HP := Lib.hid hp
          obtain ⟨pa, pi⟩ := p
          dsimp only at p0 p1
          obtain ⟨cr, hcr⟩ : ∃ cr, cr = cmpD ⟨pa, pi⟩ ⟨a, i⟩ := ⟨_, rfl⟩
          have HCR := Lib.hid hcr
          have HORD := Lib.hid (fun w => (order_below ⟨pa, pi⟩ ⟨a, i⟩ w))
          rw [← hcr] at HORD
          have HBD := Lib.hid (show bad = decide (0 ≤ cr) by rw [HBAD.out, hcr, ← hp, d5']; rfl)
          obtain ⟨b0, b1, bz⟩ := HT1.out
          have i3 : ((k : Int) - 1).toNat = k - 1 := by omega
          have i4 : IntKind.i64.wrap ((k : Int) - 1) = (k : Int) - 1 := by rw [IntWalk.i64_in _ (by omega)]
          have i5 : (0 : Int) ≤ (k : Int) - 1 := by omega
          have i6 : (k : Int) - 1 < (n : Int) := by omega
          have i7 : (1 : Int) ≤ (k : Int) := by omega
          have hltb : b < W1.heap.size := by omega
          clear hp hcr
          by_cases q5 : 0 ≤ cr
          · have d6 : decide (0 ≤ cr) = true := by simpa using q5
            go_region_held3 (fun W => W.cell? ⟨w.heap.size, 1, none⟩ = some (.slice (some ⟨b, off, none⟩) n c) ∧ W.cell? ⟨b, off + (k - 1) * 2, none⟩ = some (.int .i64 pa) ∧ W.cell? ⟨b, off + (k - 1) * 2 + 1, none⟩ = some (.int .i64 pi) ∧ W.cell? ⟨wr.heap.size, 0, none⟩ = some (.int .i64 a) ∧ W.cell? ⟨wr.heap.size, 1, none⟩ = some (.int .i64 i))
              (first | exact ⟨b1, p0, p1, e0, e1⟩ | exact ⟨r0, r1, r2, r3, r4⟩ | go_keep)
              ((go_at_call 37; refine (HORD.out _).mono ?_; rintro e w2 ⟨rfl, hb2⟩; have r0 := (hb2.cell (p := ⟨w.heap.size, 1, none⟩) bz).trans b1; have r1 := (hb2.cell (p := ⟨b, off + (k - 1) * 2, none⟩) hltb).trans p0; have r2 := (hb2.cell (p := ⟨b, off + (k - 1) * 2 + 1, none⟩) hltb).trans p1; have r3 := (hb2.cell (p := ⟨wr.heap.size, 0, none⟩) hz1).trans e0; have r4 := (hb2.cell (p := ⟨wr.heap.size, 1, none⟩) hz1).trans e1; have HB2w := Lib.hid (below_drew' hb2); clear hb2))
            all_goals
              go_wp2_with fail
              go_meet
              exact ⟨by rw [HBD.out, d6], HB2w.out⟩
          · have d6 : decide (0 ≤ cr) = false := by simpa using q5
            go_region_held3 (fun W => W.cell? ⟨w.heap.size, 1, none⟩ = some (.slice (some ⟨b, off, none⟩) n c) ∧ W.cell? ⟨b, off + (k - 1) * 2, none⟩ = some (.int .i64 pa) ∧ W.cell? ⟨b, off + (k - 1) * 2 + 1, none⟩ = some (.int .i64 pi) ∧ W.cell? ⟨wr.heap.size, 0, none⟩ = some (.int .i64 a) ∧ W.cell? ⟨wr.heap.size, 1, none⟩ = some (.int .i64 i))
              (first | exact ⟨b1, p0, p1, e0, e1⟩ | exact ⟨r0, r1, r2, r3, r4⟩ | go_keep)
              ((go_at_call 37; refine (HORD.out _).mono ?_; rintro e w2 ⟨rfl, hb2⟩; have r0 := (hb2.cell (p := ⟨w.heap.size, 1, none⟩) bz).trans b1; have r1 := (hb2.cell (p := ⟨b, off + (k - 1) * 2, none⟩) hltb).trans p0; have r2 := (hb2.cell (p := ⟨b, off + (k - 1) * 2 + 1, none⟩) hltb).trans p1; have r3 := (hb2.cell (p := ⟨wr.heap.size, 0, none⟩) hz1).trans e0; have r4 := (hb2.cell (p := ⟨wr.heap.size, 1, none⟩) hz1).trans e1; have HB2w := Lib.hid (below_drew' hb2); clear hb2))
            all_goals
              go_wp2_with fail
              go_meet
              exact ⟨by rw [HBD.out, d6], HB2w.out⟩
        · have d5 : decide ((0 : Int) < (k : Int)) = false := by simp; omega
          have d5' : decide (0 < k) = false := by simpa using q4
          go_quiet (fail)
          go_wp2_with fail
          go_meet
          exact ⟨by rw [HBAD.out]; simp [q4], below_drewN (Below.refl _ _) _⟩
      case rest =>
      obtain ⟨hx, hbc⟩ := hcut
      subst hx
      have HBC := Lib.hid (HB2.out.trans (hbc.mono HB2.out.size))
      have HTC := Lib.hid (HT1.out.below hbc)
      have hzc : wr.heap.size < wc.heap.size := by have := hbc.size; omega
      have e1' : wc.cell? ⟨wr.heap.size, 1, none⟩ = some (.int .i64 i) := (hbc.cell (p := ⟨wr.heap.size, 1, none⟩) hz1).trans e1
      clear hbc e0 e1
      have e1 := e1'
      clear e1'
      cases bad with
      | true =>
        go_wp2_with fail
        go_ret
        have hb2 := HBAD.out.symm
        simp only [Bool.and_eq_true, decide_eq_true_eq] at hb2
        exact NO.out 21 (by omega) (fun h => by
          have h1 := h.2.1 hb2.1
          rw [HK.out] at h1
          omega) _ HBC.out
      | false =>
        have hgood : 0 < k → cmpD (R (k - 1)) ⟨a, i⟩ < 0 := fun h0 => by
          have hb2 := HBAD.out.symm
          simp only [Bool.and_eq_false_iff, decide_eq_false_iff_not] at hb2
          rcases hb2 with hb2 | hb2 <;> omega
        have HG := Lib.hid hgood
        clear hgood
        go_wp2_with fail
        obtain ⟨XA, hcutE, hRX⟩ := cutD_to (some ⟨b, off, none⟩) n c R w hn HR.out k (by omega)
        have HRX := Lib.hid hRX
        obtain ⟨fr, hfr⟩ : ∃ fr, fr = ixOf (idB R i) k := ⟨_, rfl⟩
        have HFR := Lib.hid hfr
        have HFIND := Lib.hid (fun W (hW : Below w.heap.size w W) => find_any XA k c R i W (by omega) (HRX.out.below hW))
        rw [← hfr] at HFIND
        obtain ⟨b0, b1, bz⟩ := HTC.out
        clear hfr hRX
        by_cases q6 : 0 ≤ fr
        · have d7 : decide (0 ≤ fr) = true := by simpa using q6
          go_region_held3 (fun W => W.cell? ⟨w.heap.size, 1, none⟩ = some (.slice (some ⟨b, off, none⟩) n c) ∧ W.cell? ⟨wr.heap.size, 1, none⟩ = some (.int .i64 i))
            (first | exact ⟨b1, e1⟩ | exact ⟨r0, r1⟩ | go_keep)
            ((go_at_call 57; refine (HFIND.out _ (HBC.out.trans ((below_drewN (Below.refl _ _) 1).mono HBC.out.size))).mono ?_; rintro e w2 ⟨rfl, hb2⟩; have r0 := (hb2.cell (p := ⟨w.heap.size, 1, none⟩) bz).trans b1; have r1 := (hb2.cell (p := ⟨wr.heap.size, 1, none⟩) hzc).trans e1; have HB2w := Lib.hid (HBC.out.trans ((below_drew' hb2).mono HBC.out.size)); have HT2w := Lib.hid (HTC.out.below (below_drew' hb2)); clear hb2))
          all_goals
            go_wp2_with fail
            go_ret
            exact NO.out 5 (by omega) (fun h => by
              rcases ixOf_cases (idB R i) k with ⟨e, _⟩ | ⟨j, e, hj, hp, _⟩
              · rw [HFR.out, e] at q6; omega
              · have := h.2.2 j hj
                rw [HK.out] at this
                exact this (by simpa [idB] using hp)) _ HB2w.out
        · have d7 : decide (0 ≤ fr) = false := by simpa using q6
          go_region_held3 (fun W => W.cell? ⟨w.heap.size, 1, none⟩ = some (.slice (some ⟨b, off, none⟩) n c) ∧ W.cell? ⟨wr.heap.size, 1, none⟩ = some (.int .i64 i))
            (first | exact ⟨b1, e1⟩ | exact ⟨r0, r1⟩ | go_keep)
            ((go_at_call 57; refine (HFIND.out _ (HBC.out.trans ((below_drewN (Below.refl _ _) 1).mono HBC.out.size))).mono ?_; rintro e w2 ⟨rfl, hb2⟩; have r0 := (hb2.cell (p := ⟨w.heap.size, 1, none⟩) bz).trans b1; have r1 := (hb2.cell (p := ⟨wr.heap.size, 1, none⟩) hzc).trans e1; have HB2w := Lib.hid (HBC.out.trans ((below_drew' hb2).mono HBC.out.size)); have HT2w := Lib.hid (HTC.out.below (below_drew' hb2)); clear hb2))
          all_goals
            go_wp2_with fail
            go_roundw
            case rel =>
              refine ⟨k + 1, by omega, by go_num, fun j hj => ?_, ?_, HB2w.out⟩
              · by_cases ej : j = k
                · subst ej
                  unfold OkDu
                  rw [HK.out]
                  refine ⟨⟨by show now < a; omega, by show a ≤ 2199023255552; omega⟩, fun h0 => HG.out h0, fun p hp hid => ?_⟩
                  rcases ixOf_cases (idB R i) j with ⟨e, hno⟩ | ⟨p', e, hp', _⟩
                  · have := hno p hp
                    simp [idB] at this
                    exact this hid
                  · rw [HFR.out, e] at q6; omega
                · exact HL.out j (by omega)
              · exact HT2w.out
            case measure => simp [intOf]; omega
    · obtain rfl : k = n := by omega
      go_wp2_with fail
      go_ret
      exact ⟨0, rfl, ⟨fun _ => ⟨by omega, hnow, HL.out⟩, fun _ => rfl⟩, HB.out⟩
end Go.Proofs.Ytcedogmhmpcfmaa.Ti
namespace Go.Proofs.Ytcedogmhmpcfmaa.Ti
open Go.RowKit
set_option linter.unusedVariables false
def nthD (l : List Du) : Nat → Du := fun k => l.getD k default
def encDu (x : Du) : List Value := [.int .i64 x.at_, .int .i64 x.id]
def encD (l : List Du) : List Value := l.flatMap encDu
theorem encD_len (l : List Du) : (encD l).length = l.length * 2 := by
  induction l with
  | nil => rfl
  | cons x l ih => unfold encD at ih ⊢; rw [List.flatMap_cons, List.length_append, ih]; simp [encDu]; omega
theorem encD_append (l m : List Du) : encD (l ++ m) = encD l ++ encD m := by simp [encD]
theorem flatC_take_lst (l : List Du) : ∀ n, n ≤ l.length → flatC (duC (nthD l)) n = encD (l.take n) := by
  intro n
  induction n with
  | zero => intro _; rfl
  | succ n ih =>
    intro hn
    have e : duC (nthD l) n = encDu l[n] := by
      unfold duC nthD encDu
      rw [List.getD_eq_getElem?_getD, List.getElem?_eq_getElem (by omega), Option.getD_some]
    rw [flatC, ih (by omega), List.take_succ_eq_append_getElem (by omega), encD_append, e]
    simp [encD]
theorem flatC_du (l : List Du) : flatC (duC (nthD l)) l.length = encD l := by rw [flatC_take_lst l _ (Nat.le_refl _), List.take_length]
theorem encD_one (l : List Du) : ∀ u ∈ encD l, u.oneCell' = true := by
  intro u hu
  unfold encD at hu
  rw [List.mem_flatMap] at hu
  obtain ⟨j, _, h⟩ := hu
  simp [encDu] at h
  rcases h with rfl | rfl <;> rfl
def OwnD (w : World) (base : Nat) (v : Value) (l : List Du) : Prop := w.ownsRow base 37 2 v l.length (encD l)
/-- a slice that reads as timers -/
def Sd (w : World) (v : Value) (l : List Du) : Prop := ∃ A c, v = .slice A l.length c ∧ l.length ≤ c ∧ c ≤ 9223372036854775807 ∧ (A = none → l.length = 0) ∧ Rd w 2 (duC (nthD l)) A l.length
theorem Sd.below {w w' : World} {v : Value} {l : List Du} (h : Sd w v l) (hb : Below w.heap.size w w') : Sd w' v l := by
  obtain ⟨A, c, e, h1, h2, h3, h4⟩ := h
  exact ⟨A, c, e, h1, h2, h3, h4.below hb⟩
theorem Sd.nil (w : World) : Sd w (.slice none 0 0) [] := ⟨none, 0, rfl, Nat.le_refl _, by omega, fun _ => rfl, fun h => by simp at h⟩
theorem OwnD.rd {w : World} {base n c : Nat} {A : Option Addr} {l : List Du} (h : OwnD w base (.slice A n c) l) : Rd w 2 (duC (nthD l)) A l.length := by
  obtain ⟨A', c', hv, _⟩ := own_any h
  injection hv with h1 h2 h3
  subst h1 h2 h3
  refine Rd.of_own (duC_len _) (c := c) (base := base) (e := 37) ?_
  rw [flatC_du]
  exact h
theorem Sd.of_own {w : World} {base : Nat} {v : Value} {l : List Du} (h : OwnD w base v l) : Sd w v l := by
  obtain ⟨A, c, rfl, h1, h2, h3⟩ := own_any h
  exact ⟨A, c, rfl, h1, h2, h3, h.rd⟩
theorem OwnD.nil (w : World) (base : Nat) : OwnD w base (.slice none 0 0) [] := World.ownsRow_nil _ _ _ _
theorem OwnD.alloc {w : World} {base : Nat} {v : Value} {l : List Du} (h : OwnD w base v l) (o : Obj) : OwnD (w.alloc o) base v l := World.ownsRow.alloc h o
theorem OwnD.grown {w w1 : World} {base : Nat} {v : Value} {l : List Du} {row : Option Nat} (h : OwnD w base v l) (hg : w.grownBy w1 row) (hne : ∀ k, v.ownBlock = some k → row ≠ some k) : OwnD w1 base v l := own_grown h hg hne
theorem OwnD.below {w w1 : World} {base : Nat} {v : Value} {l : List Du} (h : OwnD w base v l) (hb : Below w.heap.size w w1) : OwnD w1 base v l := own_keep h hb
theorem OwnD.mono {w : World} {base base' : Nat} {v : Value} {l : List Du} (h : OwnD w base v l) (hb : base' ≤ base) : OwnD w base' v l := own_mono h hb
theorem OwnD.blk {w : World} {base : Nat} {v : Value} {l : List Du} (h : OwnD w base v l) : ∀ k, v.ownBlock = some k → base ≤ k ∧ k < w.heap.size := World.ownsRow.lt h
theorem info_cloneDr : (Try.prog.info? 37).map (fun i => (i.zero, i.size, i.bytes)) = some (some (.agg #[.int .i64 0, .int .i64 0]), 2, 16) := by kernel_rfl
set_option maxRecDepth 100000 in
set_option maxHeartbeats 400000 in
theorem cloneDr (A : Option Addr) (n c : Nat) (g : Nat → List Value) (w : World) (hR : Rd w 2 g A n) (hl : ∀ k, (g k).length = 2) (h1 : ∀ k u, u ∈ g k → u.oneCell' = true)
    (hA : A = none → n = 0) (hn : n * 16 ≤ 140737488355328) :
    Calls Try.prog 6 #[.slice A n c] w (ClonePost 37 2 n (flatC g n) w) := by
  obtain ⟨i0, hi, hz0, hz1, hz2⟩ := info_parts info_cloneDr
  have hnil := fun (w : World) => Lib.run_eql_slice_nil (P := Try.prog) w
  cases A with
  | none =>
    obtain rfl := hA rfl
    clear hR hl h1 hA hi hz0 hz1 hz2 hn
    go_enter Try.func6, Try.ntmps6
    go_wp2_with fail
    go_ret
    exact ⟨_, rfl, World.ownsRow_nil _ _ _ _, Below.refl _ _⟩
  | some a =>
    have hn0 : ∀ (o : Obj) j u, (flatC g n)[j]? = some u → (w.alloc o).cell? (a.add j) = some u := fun o j u hu => by
      obtain ⟨q1, q2, q3⟩ := flatC_at hl (by omega) hu
      obtain ⟨b, off, hab, hb, hc⟩ := hR (by omega)
      injection hab with hab
      subst hab
      have e : (⟨b, off, none⟩ : Addr).add j = ⟨b, off + j / 2 * 2 + j % 2, none⟩ := by
        have := Nat.div_add_mod' j 2
        unfold Addr.add
        split
        · rename_i h; subst h; simp
        · simp; omega
      rw [e, World.cell?_alloc_lt _ _ _ hb]
      exact hc _ q1 _ _ q3
    have HN := Lib.hid hn0
    have H1 := Lib.hid h1
    have HL := Lib.hid (flatC_length hl n)
    clear hR hl h1 hA hn0
    go_enter Try.func6, Try.ntmps6
    go_wp2_with (at_builtin; refine wpList_append_own _ rfl _ _ 23 rfl w.heap.size 37 i0 _ 2 16 Try.underlying23 hi hz0 hz1 hz2 rfl (by omega) (.slice (some ⟨w.heap.size, 0, none⟩) 0 0) 0 [] rfl (World.ownsRow_lit w #[] 0 (Nat.le_refl _) (by simp [maxLen]) rfl) a n c (flatC g n) rfl HL.out (HN.out _) (fun u hu => by obtain ⟨k, _, hk⟩ := flatC_mem hu; exact H1.out k u hk) (by unfold maxLen; omega) (by omega) (by simp) ?_; intro v1 w1 hown hgrow _; simp only [Nat.zero_add, List.nil_append] at hown)
    go_ret
    exact ⟨v1, rfl, hown, ((Below.refl _ _).alloc (Nat.le_refl _) _).grown hgrow (by simp) (by simp [Value.ownBlock])⟩

theorem cloneD_any (A : Option Addr) (c : Nat) (l : List Du) (w : World) (hS : Sd w (.slice A l.length c) l) (hl : l.length ≤ 1000000) :
    Calls Try.prog 6 #[.slice A l.length c] w fun e w' => ∃ A' c', e = .returned (.slice A' l.length c') ∧ OwnD w' w.heap.size (.slice A' l.length c') l ∧ Below w.heap.size w w' := by
  obtain ⟨A0, c0, e, h1, h2, h3, h4⟩ := hS
  injection e with e1 e2 e3
  subst e1 e3
  refine (cloneDr A l.length c (duC (nthD l)) w h4 (duC_len _) (duC_one _) h3 (by omega)).mono ?_
  rintro e w1 ⟨v1, rfl, hown1, hb1⟩
  rw [flatC_du] at hown1
  obtain ⟨A1, c1, rfl, _, _, _⟩ := own_any hown1
  exact ⟨A1, c1, rfl, hown1, hb1⟩
/-! the order of timers -/
theorem cmpD_neg (x y : Du) : cmpD x y < 0 ↔ x.at_ < y.at_ ∨ (x.at_ = y.at_ ∧ x.id < y.id) := by
  unfold cmpD orI cmpI
  repeat' split
  all_goals omega
theorem cmpD_zero (x y : Du) : cmpD x y = 0 ↔ x = y := by
  obtain ⟨a, i⟩ := x
  obtain ⟨b, j⟩ := y
  simp only [Du.mk.injEq]
  unfold cmpD orI cmpI
  dsimp only
  repeat' split
  all_goals omega
def ltD (x y : Du) : Bool := decide (cmpD x y < 0)
theorem swoD : Go.Sort.SWO (Go.Proofs.ltOf cmpD) where
  irrefl x := by
    show decide (cmpD x x < 0) = false
    simp [cmpD_neg]
  trans x y z h1 h2 := by
    have h1' : decide (cmpD x y < 0) = true := h1
    have h2' : decide (cmpD y z < 0) = true := h2
    show decide (cmpD x z < 0) = true
    simp only [decide_eq_true_eq, cmpD_neg] at *
    omega
  ntrans x y z h1 h2 := by
    have h1' : decide (cmpD x y < 0) = false := h1
    have h2' : decide (cmpD y z < 0) = false := h2
    show decide (cmpD x z < 0) = false
    simp only [decide_eq_false_iff_not, cmpD_neg] at *
    omega
theorem totD (x y : Du) (h1 : Go.Proofs.ltOf cmpD x y = false) (h2 : Go.Proofs.ltOf cmpD y x = false) : x = y := by
  have h1' : decide (cmpD x y < 0) = false := h1
  have h2' : decide (cmpD y x < 0) = false := h2
  simp only [decide_eq_false_iff_not, cmpD_neg] at *
  obtain ⟨a, i⟩ := x
  obtain ⟨b, j⟩ := y
  simp only [Du.mk.injEq]
  dsimp only at *
  omega
/-- the timers in their order -/
def srtD (l : List Du) : List Du := l.mergeSort fun x y => !(Go.Proofs.ltOf cmpD) y x
theorem srtD_perm (l : List Du) : (srtD l).Perm l := List.mergeSort_perm _ _
theorem srtD_len (l : List Du) : (srtD l).length = l.length := (srtD_perm l).length_eq
/-! a row sorted by the library -/
theorem flatK_du (l : List Du) : (Go.Sort.flatK encDu 2 l.toArray).toList = encD l := by
  apply List.ext_getElem?
  intro t
  by_cases ht : t < l.length * 2
  · have h1 : (Go.Sort.flatK encDu 2 l.toArray).toList[t]? = some ((Go.Sort.flatK encDu 2 l.toArray)[t]!) := by
      have hs : t < (Go.Sort.flatK encDu 2 l.toArray).size := by rw [Go.Sort.size_flatK]; simpa using ht
      rw [Array.getElem?_toList, Array.getElem?_eq_getElem hs, getElem!_pos (Go.Sort.flatK encDu 2 l.toArray) t hs]
    rw [h1, Go.Sort.get_flatK _ _ _ _ (by simpa using ht)]
    have hk : t / 2 < l.length := by omega
    have hm : t % 2 < 2 := by omega
    have h2 : (encD l)[t]? = (encDu l[t / 2])[t % 2]? := by
      have h3 := flatC_get (g := duC (nthD l)) (sz := 2) (duC_len _) hk hm
      rw [flatC_du, Nat.div_add_mod'] at h3
      rw [h3]
      unfold duC nthD encDu
      rw [List.getD_eq_getElem?_getD, List.getElem?_eq_getElem hk, Option.getD_some]
    rw [h2]
    have h4 : l.toArray[t / 2]! = l[t / 2] := by simp [hk]
    rw [h4]
    have hlen : t % 2 < (encDu l[t / 2]).length := hm
    rw [List.getElem?_eq_getElem hlen, getElem!_pos (encDu l[t / 2]) (t % 2) hlen]
  · rw [List.getElem?_eq_none (by rw [Array.length_toList, Go.Sort.size_flatK]; simp; omega), List.getElem?_eq_none (by rw [encD_len]; omega)]
theorem heap_sortedV {w : World} {g n : Nat} {os : Array Obj} {cur : Array Value} {e : TypeId} {fr : Nat × Nat} (d : Array Value) (hb : w.heap[g]? = some (.cells cur e fr)) :
    (Go.Sort.grow (Go.Sort.putRow id (Go.Sort.ahead w n) g 0 d) os).heap[g]? = some (.cells (Go.Sort.putCells id 0 d cur) e fr) := by
  have hg : g < w.heap.size := (Array.getElem?_eq_some_iff.1 hb).1
  rw [Go.Sort.heap_grow_old _ _ (by simpa using hg)]
  simp [Go.Sort.putRow, Go.Sort.mapBlock, Go.Sort.ahead, Array.getElem?_modify, hb, Go.Sort.onCells]
theorem grownBy_sortedV {w : World} {g n : Nat} {os : Array Obj} (d : Array Value) : w.grownBy (Go.Sort.grow (Go.Sort.putRow id (Go.Sort.ahead w n) g 0 d) os) (some g) := by
  refine ⟨rfl, rfl, rfl, by simp, fun k hk hne => ?_⟩
  rw [Go.Sort.heap_grow_old _ _ (by simpa using hk)]
  have : g ≠ k := fun e => hne (by rw [e])
  simp [Go.Sort.putRow, Go.Sort.mapBlock, Go.Sort.ahead, Array.getElem?_modify, this]
theorem take_putCellsV (cur : Array Value) (ts : List Value) (h : ts.length ≤ cur.size) : (Go.Sort.putCells id 0 ts.toArray cur).toList.take ts.length = ts := by
  apply List.ext_getElem?
  intro j
  by_cases hj : j < ts.length
  · rw [List.getElem?_take_of_lt hj, Array.getElem?_toList]
    simp [Go.Sort.putCells, hj, show j < cur.size by omega]
  · rw [List.getElem?_take_eq_none (by omega), List.getElem?_eq_none (by omega)]
def SortPost (base : Nat) (v : Value) (l : List Du) (w : World) (e : Ending) (w' : World) : Prop := e = .returned (.tuple #[]) ∧ OwnD w' base v (srtD l) ∧ w.grownBy w' v.ownBlock
theorem order_enters : ∀ args w, (callFunc 37 args).run Try.prog w = .ok (.enter 37 args) w := fun _ _ => by kernel_rfl
theorem sort_own (base : Nat) (v : Value) (l : List Du) (w : World) (h : OwnD w base v l) (h0 : 0 < l.length) (hl : l.length < 4611686018427387904) : Calls Try.prog 36 #[v, .func (.func 37) #[] #[]] w (SortPost base v l w) := by
  have hown : w.ownsRow base 37 2 v l.length (encD l) := h
  rcases h.2 with ⟨rfl, h0'⟩ | ⟨g, cap, cur, rfl, hb, hg, hnc, hcm, hcs, htake⟩
  · omega
  · have hlt := (Array.getElem?_eq_some_iff.1 hg).1
    have hH : Go.Sort.HoldsK encDu 2 w g 0 l.toArray := by
      intro j hj
      rw [Go.Sort.size_flatK] at hj
      have hj' : j < l.length * 2 := by simpa using hj
      refine ⟨?_, by simp [World.frozen?, hg]⟩
      rw [Nat.zero_add, hown.cellAt j hj', ← flatK_du]
      have hs : j < (Go.Sort.flatK encDu 2 l.toArray).size := by rw [Go.Sort.size_flatK]; simpa using hj'
      rw [Array.getElem?_toList, Array.getElem?_eq_getElem hs, getElem!_pos (Go.Sort.flatK encDu 2 l.toArray) j hs]
      rfl
    have hs := Try.sort_func encDu (fun _ => rfl) (fun x u hu => by simp [encDu] at hu; rcases hu with rfl | rfl <;> rfl) cmpD swoD 37 #[] g 0 cap l.toArray w order_enters
      (fun m os dk _ x y => order_any x y _) hH hlt (by simpa using hl) totD
    rw [show l.toArray.toList.mergeSort (fun x y => !(Go.Proofs.ltOf cmpD) y x) = srtD l from rfl] at hs
    have hs' : Calls Try.prog 36 #[.slice (some ⟨g, 0, none⟩) l.length cap, .func (.func 37) #[] #[]] w fun e w' => e = .returned (.tuple #[]) ∧ ∃ n os, w' = sortWorldK encDu 2 w g 0 n (srtD l).toArray os := by
      simpa using hs
    refine hs'.mono ?_
    rintro e w' ⟨rfl, n, os, rfl⟩
    have hF : Go.Sort.flatK encDu 2 (srtD l).toArray = (encD (srtD l)).toArray := by rw [← flatK_du]
    have hw : sortWorldK encDu 2 w g 0 n (srtD l).toArray os = Go.Sort.grow (Go.Sort.putRow id (Go.Sort.ahead w n) g 0 (encD (srtD l)).toArray) os := by
      unfold sortWorldK Go.Sort.putRowK
      rw [hF]
    rw [hw]
    refine ⟨rfl, ?_, grownBy_sortedV _⟩
    have hsl := srtD_len l
    have hel := encD_len (srtD l)
    refine ⟨by rw [hel], .inr ⟨g, cap, _, by rw [hsl], hb, heap_sortedV _ hg, by omega, hcm, by simp [Go.Sort.putCells, hcs], ?_⟩⟩
    rw [show (srtD l).length * 2 = (encD (srtD l)).length by rw [hel]]
    exact take_putCellsV cur _ (by rw [hel, hsl, hcs]; omega)
end Go.Proofs.Ytcedogmhmpcfmaa.Ti
namespace Go.Proofs.Ytcedogmhmpcfmaa.Ti
open Go.RowKit
set_option linter.unusedVariables false
theorem encD_get {l : List Du} {k : Nat} {x : Du} (h : l[k]? = some x) : (encD l)[k * 2]? = some (.int .i64 x.at_) ∧ (encD l)[k * 2 + 1]? = some (.int .i64 x.id) := by
  obtain ⟨hk, rfl⟩ := List.getElem?_eq_some_iff.1 h
  have h0 := flatC_get (g := duC (nthD l)) (sz := 2) (duC_len _) hk (j := 0) (by omega)
  have h1 := flatC_get (g := duC (nthD l)) (sz := 2) (duC_len _) hk (j := 1) (by omega)
  rw [flatC_du] at h0 h1
  rw [Nat.add_zero] at h0
  have e : nthD l k = l[k] := by simp [nthD, hk]
  exact ⟨by rw [h0]; simp [duC, e], by rw [h1]; simp [duC, e]⟩
theorem encD_set (l : List Du) : ∀ (k : Nat) (x : Du), ((encD l).set (k * 2) (.int .i64 x.at_)).set (k * 2 + 1) (.int .i64 x.id) = encD (l.set k x) := by
  induction l with
  | nil => intro k x; simp [encD]
  | cons y l ih =>
    intro k x
    have e : encD (y :: l) = .int .i64 y.at_ :: .int .i64 y.id :: encD l := rfl
    cases k with
    | zero => rw [e]; rfl
    | succ k =>
      have h2 : (k + 1) * 2 = k * 2 + 1 + 1 := by omega
      rw [e, h2, List.set_cons_succ, List.set_cons_succ, List.set_cons_succ, List.set_cons_succ, ih k x]
      rfl
theorem encD_take (l : List Du) (k : Nat) : (encD l).take (k * 2) = encD (l.take k) := by
  by_cases h : k ≤ l.length
  · conv => lhs; rw [← List.take_append_drop k l, encD_append]
    rw [List.take_append_of_le_length (by rw [encD_len, List.length_take]; omega), List.take_of_length_le (by rw [encD_len, List.length_take]; omega)]
  · rw [List.take_of_length_le (by rw [encD_len]; omega), List.take_of_length_le (by omega)]
/-- the state of DeleteFunc's loop: of the first q timers those that stay lie in front -/
def DelInv (p : Du → Bool) (l : List Du) (i q : Nat) (X : List Du) : Prop := X.length = l.length ∧ i < q ∧ X.take i = (l.take q).filter (fun x => !p x) ∧ X.drop q = l.drop q
theorem DelInv.at_q {p : Du → Bool} {l : List Du} {i q : Nat} {X : List Du} (h : DelInv p l i q X) : X[q]? = l[q]? := by
  have h1 : (X.drop q)[0]? = (l.drop q)[0]? := by rw [h.2.2.2]
  simpa using h1
theorem DelInv.start {p : Du → Bool} {l : List Du} {k : Nat} {x : Du} (hk : l[k]? = some x) (hp : p x = true) (hno : ∀ j y, j < k → l[j]? = some y → p y = false) : DelInv p l k (k + 1) l := by
  obtain ⟨hkl, he⟩ := List.getElem?_eq_some_iff.1 hk
  refine ⟨rfl, by omega, ?_, rfl⟩
  rw [List.take_succ_eq_append_getElem hkl, he, List.filter_append]
  have h1 : (l.take k).filter (fun x => !p x) = l.take k := by
    rw [List.filter_eq_self]
    intro y hy
    obtain ⟨j, hj, rfl⟩ := List.mem_iff_getElem.1 hy
    rw [List.length_take] at hj
    rw [List.getElem_take]
    simp [hno j _ (by omega) (List.getElem?_eq_getElem (by omega))]
  rw [h1]
  simp [hp]
theorem DelInv.skip {p : Du → Bool} {l : List Du} {i q : Nat} {X : List Du} {x : Du} (h : DelInv p l i q X) (hq : l[q]? = some x) (hp : p x = true) : DelInv p l i (q + 1) X := by
  obtain ⟨h1, h2, h3, h4⟩ := h
  obtain ⟨hql, he⟩ := List.getElem?_eq_some_iff.1 hq
  refine ⟨h1, by omega, ?_, ?_⟩
  · rw [List.take_succ_eq_append_getElem hql, he, List.filter_append, h3]; simp [hp]
  · rw [← List.drop_drop, h4, List.drop_drop]
theorem DelInv.keep {p : Du → Bool} {l : List Du} {i q : Nat} {X : List Du} {x : Du} (h : DelInv p l i q X) (hq : l[q]? = some x) (hp : p x = false) : DelInv p l (i + 1) (q + 1) (X.set i x) := by
  obtain ⟨h1, h2, h3, h4⟩ := h
  obtain ⟨hql, he⟩ := List.getElem?_eq_some_iff.1 hq
  refine ⟨by simpa using h1, by omega, ?_, ?_⟩
  · rw [List.take_succ_eq_append_getElem hql, he, List.filter_append, ← h3, List.take_succ_eq_append_getElem (by rw [List.length_set]; omega), List.take_set_of_le (Nat.le_refl _), List.getElem_set_self]
    simp [hp]
  · rw [List.drop_set_of_lt (by omega), ← List.drop_drop, h4, List.drop_drop]
theorem grown_trans {a b c : World} {row : Option Nat} (h1 : a.grownBy b row) (h2 : b.grownBy c row) : a.grownBy c row := grown_step h1 h2 (.inl rfl)
theorem grown_any {a b : World} {row : Option Nat} (h : a.grownBy b none) : a.grownBy b row := ⟨h.os, h.tape, h.output, h.size, fun k hk _ => h.block k hk (by simp)⟩
/-- the predicate says p x wherever at most the row's block has changed, and changes nothing that lies -/
def SaysD (w : World) (g f : Nat) (cp : Array Value) (p : Du → Bool) : Prop := ∀ W (x : Du), w.grownBy W (some g) → Calls Try.prog f (#[.agg #[.int .i64 x.at_, .int .i64 x.id]] ++ cp) W fun e W' => e = .returned (.bool (p x)) ∧ W.grownBy W' none
theorem zeroD : ∀ w, (zeroValue 37).run Try.prog w = .ok (.agg #[.int .i64 0, .int .i64 0]) w := fun w => by kernel_rfl
def DelPost (base g cap : Nat) (l : List Du) (w : World) (e : Ending) (w' : World) : Prop :=
  e = .returned (.slice (some ⟨g, 0, none⟩) l.length cap) ∧ OwnD w' base (.slice (some ⟨g, 0, none⟩) l.length cap) l ∧ w.grownBy w' (some g)
/-- a shorter slice of a row some of whose later cells were written -/
theorem own_cleared {base g n cap i : Nat} {w : World} {X : List Du} (h : w.ownsRow base 37 2 (.slice (some ⟨g, 0, none⟩) n cap) n (encD X)) (hX : X.length = n) (hi : i ≤ n) (vs : List Value) (hv : i * 2 + vs.length ≤ n * 2) :
    OwnD (w.setCells g (i * 2) vs) base (.slice (some ⟨g, 0, none⟩) i cap) (X.take i) ∧ w.grownBy (w.setCells g (i * 2) vs) (some g) := by
  refine ⟨?_, grown_setCells _ _ _ _⟩
  rcases h.2 with ⟨h', _⟩ | ⟨g', cap', cur, hv', hb, hg, hnc, hcm, hcs, ht⟩
  · cases h'
  · injection hv' with e1 e2 e3
    injection e1 with e1
    injection e1 with e1
    subst e1 e3
    have hl : (X.take i).length = i := by rw [List.length_take]; omega
    have hsz : i * 2 + vs.length ≤ cur.size := by rw [hcs]; have := Nat.mul_le_mul_right 2 hnc; omega
    refine ⟨by rw [encD_len], .inr ⟨g, cap, _, by rw [hl], hb, setCells_heap hg hsz, by rw [hl]; omega, hcm, ?_, ?_⟩⟩
    · simp
      omega
    · rw [hl]
      show ((cur.toList.take (i * 2) ++ vs ++ cur.toList.drop (i * 2 + vs.length)).toArray.toList).take (i * 2) = encD (X.take i)
      rw [List.append_assoc, List.take_append_of_le_length (by rw [List.length_take, Array.length_toList]; omega), List.take_take, Nat.min_self, ← encD_take, ← ht, List.take_take]
      congr 1
      omega
set_option maxRecDepth 100000 in
set_option maxHeartbeats 4000000 in
theorem delF_any (base g cap f : Nat) (cp : Array Value) (l : List Du) (p : Du → Bool) (w : World) (hm : l.length ≤ 1000) (he : Enters Try.prog f)
    (ho : OwnD w base (.slice (some ⟨g, 0, none⟩) l.length cap) l) (hs : SaysD w g f cp p) :
    Calls Try.prog 34 #[.slice (some ⟨g, 0, none⟩) l.length cap, .func (.func f) #[] cp] w (DelPost base g cap (l.filter (fun x => !p x)) w) := by
  have ho' : w.ownsRow base 37 2 (.slice (some ⟨g, 0, none⟩) l.length cap) l.length (encD l) := ho
  have hix : Calls Try.prog 58 #[.slice (some ⟨g, 0, none⟩) l.length cap, .func (.func f) #[] cp] w fun e w' => e = .returned (.int .i64 (ixOf (fun k => p (nthD l k)) l.length)) ∧ w.grownBy w' none :=
    ixD_any (fun W => w.grownBy W none) (some ⟨g, 0, none⟩) g 0 l.length cap f cp (fun k => .int .i64 (nthD l k).at_) (fun k => .int .i64 (nthD l k).id) (fun k => p (nthD l k)) w (by omega) (fun _ => rfl) he (fun W hW k hk => by
      have h1 := (ho'.kept hW (.inr (by simp [Value.ownBlock])))
      have hg := encD_get (l := l) (k := k) (x := nthD l k) (by simp [nthD, hk])
      exact ⟨by rw [Nat.zero_add]; exact (h1.cellAt (k * 2) (by omega)).trans hg.1, by rw [Nat.zero_add]; exact (h1.cellAt (k * 2 + 1) (by omega)).trans hg.2⟩)
      (fun W hW k hk => (hs W (nthD l k) (grown_any hW)).mono fun e W' ⟨h1, h2⟩ => ⟨h1, grown_trans hW h2⟩) (grown_self _ _)
  have HIX := Lib.hid hix
  have HO := Lib.hid ho'
  have HS := Lib.hid hs
  have HE := Lib.hid he
  obtain ⟨hnc, hcm⟩ := own_cap ho'
  clear hix ho hs he ho'
  rcases ixOf_cases (fun k => p (nthD l k)) l.length with ⟨hix, hno⟩ | ⟨k, hix, hk, hp, hno⟩
  · have HN := Lib.hid hno
    have HX := Lib.hid hix
    clear hno hix
    go_enter Try.func34, Try.ntmps34
    go_wp2_with fail
    refine HIX.out.mono ?_
    rintro e w1 ⟨rfl, hg⟩
    rw [HX.out]
    go_wp2_with fail
    go_ret
    have e1 : l.filter (fun x => !p x) = l := by
      rw [List.filter_eq_self]
      intro x hx
      obtain ⟨j, hj, rfl⟩ := List.mem_iff_getElem.1 hx
      have := HN.out j hj
      simp [nthD, hj] at this
      simp [this]
    rw [e1]
    exact ⟨rfl, HO.out.kept hg (.inr (by simp [Value.ownBlock])), grown_any hg⟩
  · have HI := Lib.hid (DelInv.start (p := p) (l := l) (k := k) (x := nthD l k) (by simp [nthD, hk]) hp (fun j y hj hy => by
      have := hno j hj
      have e : nthD l j = y := by simp [nthD, hy]
      rw [e] at this
      exact this))
    have HX := Lib.hid hix
    have hlt1 : ((k : Int) == -1) = false := beq_eq_false_iff_ne.2 (by omega)
    clear hno hix hp
    go_enter Try.func34, Try.ntmps34
    go_wp2_with fail
    refine HIX.out.mono ?_
    rintro e w1 ⟨rfl, hg⟩
    rw [HX.out]
    have HG := Lib.hid hg
    clear hg
    go_wp2_with fail
    go_loopw [5, 6, 7] (fun a b _ wr => ∃ (i q : Nat) (X : List Du), a = .int .i64 i ∧ b = .int .i64 q ∧ q ≤ l.length ∧ DelInv p l i q X ∧ wr.ownsRow base 37 2 (.slice (some ⟨g, 0, none⟩) l.length cap) l.length (encD X) ∧ w.grownBy wr (some g)) (fun _ b _ _ => l.length - (intOf b).toNat)
    case atStart => exact ⟨k, k + 1, l, rfl, by go_num, by omega, HI.out, HO.out.kept HG.out (.inr (by simp [Value.ownBlock])), grown_any HG.out⟩
    case round =>
      obtain ⟨i, q, X, rfl, rfl, hq, hI, hown, hgw⟩ := hrel
      have hiq := hI.2.1
      have hXl := Lib.hid hI.1
      have hXle : X.length ≤ 1000 := by rw [hI.1]; omega
      have HI := Lib.hid hI
      have HOW := Lib.hid hown
      have HGW := Lib.hid hgw
      by_cases hlt : q < l.length
      · obtain ⟨t, ht⟩ : ∃ t, l[q]? = some t := ⟨_, List.getElem?_eq_getElem hlt⟩
        obtain ⟨y, hy⟩ : ∃ y, X[i]? = some y := ⟨_, List.getElem?_eq_getElem (by rw [hI.1]; omega)⟩
        have gq := encD_get (hI.at_q.trans ht)
        have gi := encD_get hy
        have cq0 : wr.cell? ⟨g, q * 2, none⟩ = some (.int .i64 t.at_) := (hown.cellAt (q * 2) (by omega)).trans gq.1
        have cq1 : wr.cell? ⟨g, q * 2 + 1, none⟩ = some (.int .i64 t.id) := (hown.cellAt (q * 2 + 1) (by omega)).trans gq.2
        have ci0 : wr.cell? ⟨g, i * 2, none⟩ = some (.int .i64 y.at_) := (hown.cellAt (i * 2) (by omega)).trans gi.1
        have ci1 : wr.cell? ⟨g, i * 2 + 1, none⟩ = some (.int .i64 y.id) := (hown.cellAt (i * 2 + 1) (by omega)).trans gi.2
        have hen := HE.out (#[.agg #[.int .i64 t.at_, .int .i64 t.id]] ++ cp) (wr.alloc (.cells #[.int .i64 t.at_, .int .i64 t.id] 37))
        have HCI := Lib.hid (And.intro ci0 ci1)
        have HTQ := Lib.hid ht
        have hcall := Lib.hid (HS.out (wr.alloc (.cells #[.int .i64 t.at_, .int .i64 t.id] 37)) t (grown_alloc HGW.out _))
        have hglt := (own_lt hown).2
        clear hy hI hown hgw gq gi ht ci0 ci1
        go_wp2_with fail
        refine hcall.out.mono ?_
        rintro e w2 ⟨rfl, hg2⟩
        have hg2' : wr.grownBy w2 none := grown_step (World.grownBy_alloc wr _ none) hg2 (.inl rfl)
        have ci0 : w2.cell? ⟨g, i * 2, none⟩ = some (.int .i64 y.at_) := hg2'.cell HCI.out.1 (by simp)
        have ci1 : w2.cell? ⟨g, i * 2 + 1, none⟩ = some (.int .i64 y.id) := hg2'.cell HCI.out.2 (by simp)
        have v0 : w2.cell? ⟨wr.heap.size, 0, none⟩ = some (.int .i64 t.at_) := (hg2.cell (v := .int .i64 t.at_) (by simp) (by simp))
        have v1 : w2.cell? ⟨wr.heap.size, 1, none⟩ = some (.int .i64 t.id) := (hg2.cell (v := .int .i64 t.id) (by simp) (by simp))
        have ho2 := HOW.out.kept hg2' (.inr (by simp [Value.ownBlock]))
        have fi2 : ∀ o, w2.frozen? ⟨g, o, none⟩ = false := fun o => ho2.frozenAt o
        have HO2 := Lib.hid ho2
        have HG2 := Lib.hid (grown_trans HGW.out (grown_any hg2'))
        clear ho2 hg2 hg2' cq0 cq1 hen hcall
        obtain ⟨pv, hpv⟩ : ∃ pv, p t = pv := ⟨_, rfl⟩
        rw [hpv]
        have HPV := Lib.hid hpv
        clear hpv
        cases pv with
        | true =>
          go_wp2_with fail
          go_roundw
          case rel => exact ⟨i, q + 1, X, rfl, by go_num, by omega, HI.out.skip HTQ.out HPV.out, HO2.out, HG2.out⟩
          case measure => simp [intOf]; omega
        | false =>
          go_wp2_with fail
          go_roundw
          case rel =>
            have h3 := HO2.out.stored (i * 2) (.int .i64 t.at_)
            have h4 := h3.1.stored (i * 2 + 1) (.int .i64 t.id)
            rw [encD_set] at h4
            exact ⟨i + 1, q + 1, X.set i t, by go_num, by go_num, by omega, HI.out.keep HTQ.out HPV.out, h4.1, grown_trans (grown_trans HG2.out h3.2) h4.2⟩
          case measure => simp [intOf]; omega
      · obtain rfl : q = l.length := by omega
        have hci : ¬ cap = i := by omega
        have hzl : (Builtin.zeroCells (Value.agg #[.int .i64 0, .int .i64 0]).cells (l.length - i)).toList.length = (l.length - i) * 2 := zeroCells_len _ _
        have hclr : (Builtin.clear_ #[23] 0 #[.slice (some ⟨g, i * 2, none⟩) (l.length - i) (cap - i)]).run Try.prog wr = .ok (.tuple #[]) (wr.setCells g (i * 2) (Builtin.zeroCells (Value.agg #[.int .i64 0, .int .i64 0]).cells (l.length - i)).toList) :=
          run_clear_sz wr 23 37 0 (.agg #[.int .i64 0, .int .i64 0]) Try.underlying23 zeroD g (i * 2) (l.length - i) (cap - i) (by omega) (fun j hj => by
            rw [hzl] at hj
            rw [hown.cellAt (i * 2 + j) (by omega)]
            rw [List.getElem?_eq_getElem (by rw [encD_len, hI.1]; omega)]
            rfl) (fun j hj => hown.frozenAt _) (fun v hv => by
            simp [Builtin.zeroCells] at hv
            obtain ⟨a, _, hv⟩ := hv
            subst hv
            have h2 : a % 2 = 0 ∨ a % 2 = 1 := by omega
            rcases h2 with h2 | h2 <;> simp [Value.cells, h2, Value.oneCell'])
        have j1 : (0 : Int) ≤ (i : Int) := by omega
        have j2 : (i : Int) ≤ (cap : Int) := by omega
        have j3 : (i : Int) ≤ (l.length : Int) := by omega
        have HCL := Lib.hid (own_cleared (i := i) hown hI.1 (by omega) (Builtin.zeroCells (Value.agg #[.int .i64 0, .int .i64 0]).cells (l.length - i)).toList (by rw [hzl]; omega))
        clear hI hown hgw
        go_wp2_with fail
        go_ret
        have e1 := HI.out.2.2.1
        rw [List.take_length] at e1
        have el : (l.filter (fun x => !p x)).length = i := by rw [← e1, List.length_take, HI.out.1]; omega
        refine ⟨by rw [el]; rfl, ?_, grown_trans HGW.out HCL.out.2⟩
        rw [el, ← e1]
        exact HCL.out.1
end Go.Proofs.Ytcedogmhmpcfmaa.Ti
namespace Go.Proofs.Ytcedogmhmpcfmaa.Ti
open Go.RowKit
set_option linter.unusedVariables false
theorem set1_cl : EqDu 35 := fun x id b w hb hc => by
  obtain ⟨a, i⟩ := x
  dsimp only
  go_enter Try.func35, Try.ntmps35
  go_wp2_with fail
  go_ret
  exact ⟨rfl, (Below.refl _ _).alloc (Nat.le_refl _) _⟩
theorem set1_enters : Enters Try.prog 35 := fun _ _ => by kernel_rfl
def DelOwn (base : Nat) (v : Value) (l : List Du) (w : World) (e : Ending) (w' : World) : Prop :=
  ∃ A c, e = .returned (.slice A l.length c) ∧ OwnD w' base (.slice A l.length c) l ∧ w.grownBy w' v.ownBlock ∧ (Value.slice A l.length c).ownBlock = v.ownBlock
theorem delF_own (base f : Nat) (cp : Array Value) (A : Option Addr) (c : Nat) (l : List Du) (p : Du → Bool) (w : World) (hm : l.length ≤ 1000) (he : Enters Try.prog f)
    (ho : OwnD w base (.slice A l.length c) l) (hs : ∀ g, (Value.slice A l.length c).ownBlock = some g → SaysD w g f cp p) :
    Calls Try.prog 34 #[.slice A l.length c, .func (.func f) #[] cp] w (DelOwn base (.slice A l.length c) (l.filter (fun x => !p x)) w) := by
  rcases ho.2 with ⟨hv, h0⟩ | ⟨g, cap, cur, hv, _⟩
  · injection hv with e1 _ e3
    subst e1 e3
    obtain rfl : l = [] := List.eq_nil_of_length_eq_zero h0
    have hix := ixD_any (fun W => w = W) none 0 0 0 0 f cp (fun _ => .int .i64 0) (fun _ => .int .i64 0) (fun _ => false) w (by omega) (fun h => by omega) he (fun W hW k hk => by omega) (fun W hW k hk => by omega) rfl
    have HIX := Lib.hid hix
    clear hix hs
    go_enter Try.func34, Try.ntmps34
    go_wp2_with fail
    refine HIX.out.mono ?_
    rintro e w1 ⟨rfl, rfl⟩
    go_wp2_with fail
    go_ret
    exact ⟨none, 0, rfl, ho, grown_self _ _, rfl⟩
  · injection hv with e1 _ e3
    subst e1 e3
    refine (delF_any base g c f cp l p w hm he ho (hs g rfl)).mono ?_
    rintro e w' ⟨rfl, h1, h2⟩
    exact ⟨some ⟨g, 0, none⟩, c, rfl, h1, h2, rfl⟩
def OkTl (now : Int) (l : List Du) : Prop := OkT now (nthD l) l.length
/-- the other timers -/
def others (id : Int) (l : List Du) : List Du := l.filter (fun x => !(x.id == id))
def setL (now id ticks : Int) (l : List Du) : List Du := srtD (others id l ++ [⟨now + ticks, id⟩])
def SetsT (now id ticks : Int) (l : List Du) : Prop := OkTl now l ∧ (1 ≤ ticks ∧ ticks ≤ 1099511627776) ∧ (others id l).length ≠ 100
def TimPost (now : Int) (l : List Du) (w : World) (e : Ending) (w' : World) : Prop := ∃ A c, e = .returned (.tuple #[.agg #[.int .i64 now, .slice A l.length c], .int .i64 0]) ∧ OwnD w' w.heap.size (.slice A l.length c) l ∧ Below w.heap.size w w'
def TimBad (w : World) (e : Ending) (w' : World) : Prop := ∃ x : Int, x ≠ 0 ∧ e = .returned (.tuple #[.agg #[.int .i64 0, .slice none 0 0], .int .i64 x]) ∧ Below w.heap.size w w'
def SetPost (now id ticks : Int) (l : List Du) (w : World) (e : Ending) (w' : World) : Prop := (SetsT now id ticks l ∧ TimPost now (setL now id ticks l) w e w') ∨ (¬ SetsT now id ticks l ∧ TimBad w e w')
/-- the boxes of Set -/
structure SB (wx : World) (b : Nat) (now id : Int) (v : Value) : Prop where
  c0 : wx.cell? ⟨b, 0, none⟩ = some (.int .i64 now)
  c1 : wx.cell? ⟨b, 1, none⟩ = some v
  d0 : wx.cell? ⟨b + 1, 0, none⟩ = some (.int .i64 id)
  r0 : wx.cell? ⟨b + 1 + 1, 0, none⟩ = some (.int .i64 0)
  r1 : wx.cell? ⟨b + 1 + 1, 1, none⟩ = some (.slice none 0 0)
  fr : ∀ o, wx.frozen? ⟨b + 1 + 1, o, none⟩ = false
  sz : b + 1 + 1 < wx.heap.size
theorem SB.below {wx wy : World} {b : Nat} {now id : Int} {v : Value} {B : Nat} (h : SB wx b now id v) (hb : Below B wx wy) (hB : b + 1 + 1 < B) : SB wy b now id v := by
  have k := fun c o (hc : c < B) => hb.cell (p := ⟨c, o, none⟩) hc
  exact ⟨(k b 0 (by omega)).trans h.c0, (k b 1 (by omega)).trans h.c1, (k (b + 1) 0 (by omega)).trans h.d0, (k (b + 1 + 1) 0 (by omega)).trans h.r0, (k (b + 1 + 1) 1 (by omega)).trans h.r1, fun o => (hb.frozen (p := ⟨b + 1 + 1, o, none⟩) hB).trans (h.fr o), by have := hb.size; have := h.sz; omega⟩
set_option maxHeartbeats 8000000 in
set_option maxRecDepth 100000 in
theorem set_any (now : Int) (A : Option Addr) (c : Nat) (l : List Du) (id ticks : Int) (w : World) (hS : Sd w (.slice A l.length c) l) :
    Calls Try.prog 20 #[.agg #[.int .i64 now, .slice A l.length c], .int .i64 id, .int .i64 ticks] w (SetPost now id ticks l w) := by
  have HS := Lib.hid hS
  obtain ⟨k1, k2⟩ : l.length ≤ c ∧ c ≤ 9223372036854775807 := by
    obtain ⟨_, _, e, h1, h2, _, _⟩ := HS.out
    injection e with _ _ e3
    subst e3
    exact ⟨h1, h2⟩
  clear hS
  obtain ⟨W0, hW0⟩ : ∃ W0, W0 = ((w.alloc (.cells #[.int .i64 now, .slice A l.length c] 25)).alloc (.cells #[.int .i64 id] 3)).alloc (.cells #[.int .i64 0, .slice none 0 0] 25) := ⟨_, rfl⟩
  have HSB := Lib.hid (show SB W0 w.heap.size now id (.slice A l.length c) by
    rw [hW0]
    constructor
    any_goals (first | simp [go_sem] | (intro o; simp [go_sem])))
  have HB0 := Lib.hid (show Below w.heap.size w W0 by rw [hW0]; exact (((Below.refl _ _).alloc (Nat.le_refl _) _).alloc (by simp) _).alloc (by simp; omega) _)
  have hz0 : W0.heap.size = w.heap.size + 3 := by rw [hW0]; simp
  have HZ0 := Lib.hid hz0
  clear hz0
  have HRA := Lib.hid (show Rd w 2 (duC (nthD l)) A l.length by
    obtain ⟨A', c', e, _, _, _, h⟩ := HS.out
    injection e with e1 _ _
    subst e1
    exact h)
  go_enter Try.func20, Try.ntmps20
  obtain ⟨b0, b1, b2, b3, b4, bf, bz⟩ := HSB.out
  go_wp2_with fail
  rw [← hW0]
  clear hW0
  refine (check_any now A l.length c (nthD l) _ (by omega) (by omega) (HRA.out.below HB0.out)).mono ?_
  rintro e w1 ⟨x, rfl, hx, hb1⟩
  have HX := Lib.hid (show x = 0 ↔ OkTl now l from hx)
  have HSB1 := Lib.hid (HSB.out.below hb1 (by have := HZ0.out; omega))
  have HB1 := Lib.hid (HB0.out.trans (hb1.mono HB0.out.size))
  have hz1 : w.heap.size + 3 ≤ w1.heap.size := by have := hb1.size; have := HZ0.out; omega
  clear hx hb1 b0 b1 b2 b3 b4 bf bz
  have bad : ∀ y : Int, y ≠ 0 → ¬ SetsT now id ticks l → ∀ wx, SB wx w.heap.size now id (.slice A l.length c) → Below w.heap.size w wx → SetPost now id ticks l w (.returned (.tuple #[.agg #[.int .i64 0, .slice none 0 0], .int .i64 y])) ((wx.setCell ⟨w.heap.size + 1 + 1, 0, none⟩ (.int .i64 0)).setCell ⟨w.heap.size + 1 + 1, 1, none⟩ (.slice none 0 0)) :=
    fun y hy hno wx _ hb => .inr ⟨hno, y, hy, rfl, below_set (below_set hb (by omega)) (by omega)⟩
  have BAD := Lib.hid bad
  clear bad
  obtain ⟨b0, b1, b2, b3, b4, bf, bz⟩ := HSB1.out
  have x3 : (w1.cell? ⟨w.heap.size + 1 + 1, 0, none⟩).isSome = true := by rw [b3]; rfl
  have x4 : (w1.cell? ⟨w.heap.size + 1 + 1, 1, none⟩).isSome = true := by rw [b4]; rfl
  by_cases hx0 : x = 0
  rotate_left
  · have e0 : (x != 0) = true := by simpa using hx0
    have HX0 := Lib.hid hx0
    clear hx0
    go_wp2_with fail
    refine bodyPost_ret (v := .tuple #[.agg #[.int .i64 0, .slice none 0 0], .int .i64 x]) (by simp [results, Try.results20, go_sem, x3, x4]) rfl ?_
    exact BAD.out x HX0.out (fun h => HX0.out (HX.out.2 h.1)) _ HSB1.out HB1.out
  subst hx0
  have HOK := Lib.hid (HX.out.1 rfl)
  have hl100 := HOK.out.1
  have hnow := HOK.out.2.1
  by_cases ht : 1 ≤ ticks ∧ ticks ≤ 1099511627776
  rotate_left
  · have HT := Lib.hid ht
    by_cases g1 : ticks < 1
    · have d1 : decide (ticks < 1) = true := by simpa using g1
      clear ht
      go_wp2_with fail
      refine bodyPost_ret (v := .tuple #[.agg #[.int .i64 0, .slice none 0 0], .int .i64 1]) (by simp [results, Try.results20, go_sem, x3, x4]) rfl ?_
      exact BAD.out 1 (by omega) (fun h => HT.out h.2.1) _ HSB1.out HB1.out
    · have d1 : decide (ticks < 1) = false := by simpa using g1
      have d2 : decide (1099511627776 < ticks) = true := by simp; omega
      clear ht
      go_wp2_with fail
      refine bodyPost_ret (v := .tuple #[.agg #[.int .i64 0, .slice none 0 0], .int .i64 1]) (by simp [results, Try.results20, go_sem, x3, x4]) rfl ?_
      exact BAD.out 1 (by omega) (fun h => HT.out h.2.1) _ HSB1.out HB1.out
  obtain ⟨ht1, ht2⟩ := ht
  have d1 : decide (ticks < 1) = false := by simp; omega
  have d2 : decide (1099511627776 < ticks) = false := by simp; omega
  go_wp2_with fail
  refine (cloneD_any A c l _ (HS.out.below HB1.out) (by omega)).mono ?_
  rintro e w2 ⟨A2, c2, rfl, hO2, hb2⟩
  have HO2 := Lib.hid hO2
  have HSB2 := Lib.hid (HSB1.out.below hb2 (by omega))
  have HB2 := Lib.hid (HB1.out.trans (hb2.mono HB1.out.size))
  have hz2 := hb2.size
  have hen := set1_enters
  clear hO2 hb2 b0 b1 b2 b3 b4 bf bz x3 x4
  go_wp2_with fail
  refine (show Calls Try.prog 34 #[.slice A2 l.length c2, .func (.func 35) #[] #[.pointer (some ⟨w.heap.size + 1, 0, none⟩)]] w2 (DelOwn w1.heap.size (.slice A2 l.length c2) (others id l) w2) from delF_own w1.heap.size 35 #[.pointer (some ⟨w.heap.size + 1, 0, none⟩)] A2 c2 l (fun x => x.id == id) w2 (by omega) set1_enters HO2.out (fun g hg W x hW => by
    have hgl := (HO2.out.blk g hg).1
    have hcell : W.cell? ⟨w.heap.size + 1, 0, none⟩ = some (.int .i64 id) := (grown_cell hW (by have := HSB2.out.sz; omega) (fun e => by injection e with e; omega)).trans HSB2.out.d0
    exact (set1_cl x id (w.heap.size + 1) W (by have := hW.size; have := HSB2.out.sz; omega) hcell).mono fun e W' ⟨he, hb⟩ => ⟨he, grown_below hb⟩)).mono ?_
  rintro e w3 ⟨A3, c3, rfl, hO3, hg3, hat3⟩
  obtain ⟨F, hF⟩ : ∃ F, F = others id l := ⟨_, rfl⟩
  rw [← hF] at hO3 ⊢
  have HF := Lib.hid hF
  have HO3 := Lib.hid hO3
  have hb23 : Below w1.heap.size w2 w3 := below_grown (Below.refl _ _) hz2 hg3 (fun g hg => (HO2.out.blk g hg).1)
  have HSB3 := Lib.hid (HSB2.out.below hb23 (by omega))
  have HB3 := Lib.hid (HB2.out.trans (hb23.mono HB1.out.size))
  have hfl : F.length ≤ 100 := by rw [hF]; exact Nat.le_trans (List.length_filter_le _ _) hl100
  have hz3 : w1.heap.size ≤ w3.heap.size := Nat.le_trans hz2 hb23.size
  obtain ⟨i0, hi, jz0, jz1, jz2⟩ := info_parts info_cloneDr
  obtain ⟨b0, b1, b2, b3, b4, bf, bz⟩ := HSB3.out
  have x3 : (w3.cell? ⟨w.heap.size + 1 + 1, 0, none⟩).isSome = true := by rw [b3]; rfl
  have x4 : (w3.cell? ⟨w.heap.size + 1 + 1, 1, none⟩).isSome = true := by rw [b4]; rfl
  clear hF hO3 hg3 hat3 hb23 hen
  by_cases hfull : F.length = 100
  · have e1 : ((F.length : Int) == 100) = true := by rw [hfull]; rfl
    have e2 : (F.length == 100) = true := by rw [hfull]; rfl
    have HFU := Lib.hid hfull
    clear hfull
    go_wp2_with fail
    refine bodyPost_ret (v := .tuple #[.agg #[.int .i64 0, .slice none 0 0], .int .i64 6]) (by simp [results, Try.results20, go_sem, x3, x4]) rfl ?_
    exact BAD.out 6 (by omega) (fun h => h.2.2 (by rw [← HF.out]; exact HFU.out)) _ HSB3.out HB3.out
  have e1 : ((F.length : Int) == 100) = false := by rw [beq_eq_false_iff_ne]; omega
  have e2 : (F.length == 100) = false := by rw [beq_eq_false_iff_ne]; omega
  have HFU := Lib.hid hfull
  obtain ⟨hn1, hn2⟩ := hnow
  clear hfull x3 x4
  go_wp2_with (at_builtin; go_loud (refine wpList_append_own_at _ rfl _ _ 23 rfl w1.heap.size 37 i0 _ 2 16 Try.underlying23 hi jz0 jz1 jz2 rfl (by omega) (.slice A3 F.length c3) F.length (encD F) rfl (HO3.out.alloc _) ⟨w3.heap.size, 0, none⟩ 1 1 (encDu ⟨now + ticks, id⟩) rfl rfl (cell_newL _ _ _ _ rfl) (encD_one [⟨now + ticks, id⟩]) (by unfold maxLen; omega) (by omega) (by simp; omega) ?_; intro v5 w5 hq5 hg5 _ hat5; obtain ⟨A5, d5, rfl, -, -, -⟩ := own_any hq5; have HQ5 := Lib.hid hq5; have HG5 := Lib.hid hg5; have hb5 := (below_grown ((Below.refl w1.heap.size w3).alloc hz3 (.cells #[.int .i64 (now + ticks), .int .i64 id] 37)) (by simp; omega) hg5 (fun g hg => (HO3.out.blk g hg).1)); have HSB5 := Lib.hid (HSB3.out.below hb5 (by omega)); have HB5 := Lib.hid (HB3.out.trans (hb5.mono HB1.out.size)); have hz5 := hb5.size; clear hq5 hg5 hat5 hb5 b0 b1 b2 b3 b4 bf bz))
  have hO5 : OwnD w5 w1.heap.size (.slice A5 (F.length + 1) d5) (F ++ [⟨now + ticks, id⟩]) := by
    have h := HQ5.out
    unfold OwnD
    rw [List.length_append, encD_append]
    simpa [encD, encDu] using h
  refine (sort_own w1.heap.size (.slice A5 (F.length + 1) d5) (F ++ [⟨now + ticks, id⟩]) w5 hO5 (by simp) (by simp; omega)).mono ?_
  rintro e w6 ⟨rfl, hO6, hg6⟩
  have HO5 := Lib.hid hO5
  have HO6 := Lib.hid hO6
  have hb56 : Below w1.heap.size w5 w6 := below_grown (Below.refl _ _) (by omega) hg6 (fun g hg => (HO5.out.blk g hg).1)
  have HSB6 := Lib.hid (HSB5.out.below hb56 (by omega))
  have HB6 := Lib.hid (HB5.out.trans (hb56.mono HB1.out.size))
  obtain ⟨b0, b1, b2, b3, b4, bf, bz⟩ := HSB6.out
  have x3 : (w6.cell? ⟨w.heap.size + 1 + 1, 0, none⟩).isSome = true := by rw [b3]; rfl
  have x4 : (w6.cell? ⟨w.heap.size + 1 + 1, 1, none⟩).isSome = true := by rw [b4]; rfl
  clear hO5 hO6 hg6 hb56
  go_wp2_with fail
  refine bodyPost_ret (v := .tuple #[.agg #[.int .i64 now, .slice A5 (F.length + 1) d5], .int .i64 0]) (by simp [results, Try.results20, go_sem, x3, x4]) rfl ?_
  have hlen : (setL now id ticks l).length = F.length + 1 := by
    unfold setL
    rw [srtD_len, List.length_append, ← HF.out]; rfl
  have hset : setL now id ticks l = srtD (F ++ [⟨now + ticks, id⟩]) := by unfold setL; rw [← HF.out]
  refine .inl ⟨⟨HOK.out, ⟨ht1, ht2⟩, by rw [← HF.out]; exact HFU.out⟩, A5, d5, by rw [hlen], ?_, below_set (below_set HB6.out (by omega)) (by omega)⟩
  rw [hlen, hset]
  exact own_set (own_set (OwnD.mono HO6.out (Nat.le_refl _)) (by omega)) (by omega) |> fun h => own_mono h (by omega)
end Go.Proofs.Ytcedogmhmpcfmaa.Ti
namespace Go.Proofs.Ytcedogmhmpcfmaa.Ti
open Go.RowKit
set_option linter.unusedVariables false
theorem nthD_drop (l : List Du) (h k : Nat) : nthD (l.drop h) k = nthD l (h + k) := by simp [nthD]
theorem nthD_take (l : List Du) {m k : Nat} (h : k < m) : nthD (l.take m) k = nthD l k := by simp [nthD, h]
/-- l[a:] -/
theorem cutL_from (A : Option Addr) (c : Nat) (l : List Du) (w0 : World) (hS : Sd w0 (.slice A l.length c) l) (a : Nat) (ha : a ≤ l.length) :
    ∃ XA, (∀ w, (Instr.sliceAt 23 (.slice A l.length c) (some (.int .i64 (a : Int))) none none).run Try.prog w = .ok (.slice XA (l.length - a) (c - a)) w) ∧ Sd w0 (.slice XA (l.drop a).length (c - a)) (l.drop a) := by
  obtain ⟨A0, c0, e, h1, h2, h3, h4⟩ := hS
  injection e with e1 _ e3
  subst e1 e3
  have hl : (l.drop a).length = l.length - a := by simp
  refine ⟨if c = a then A else A.map (·.add (a * 2)), fun w => ?_, ?_⟩
  · rw [run_sliceAt_slice _ _ _ _ _ _ elemD, run_slice_l _ _ _ _ _ elemD _ _ (by omega) (by omega), sizeD]
    simp only [Result.andThen, sliced, Int.toNat_natCast]
  · refine ⟨_, _, rfl, by omega, by omega, fun hn => ?_, fun h0 => ?_⟩
    · rw [hl]
      by_cases e : c = a
      · omega
      · rw [if_neg e] at hn
        cases A with
        | none => have := h3 rfl; omega
        | some _ => cases hn
    · rw [hl] at h0
      obtain ⟨bk, off, rfl, hlt, hc⟩ := h4 (by omega)
      rw [if_neg (by omega)]
      refine ⟨bk, off + a * 2, by simp [Go.WideShapes.add_plain], hlt, fun k hk j u hu => ?_⟩
      rw [hl] at hk
      have := hc (a + k) (by omega) j u (by unfold duC at hu ⊢; rw [nthD_drop] at hu; exact hu)
      rw [show off + a * 2 + k * 2 + j = off + (a + k) * 2 + j by omega]
      exact this
/-- l[:b:b] -/
theorem cutL_to (A : Option Addr) (c : Nat) (l : List Du) (w0 : World) (hS : Sd w0 (.slice A l.length c) l) (b : Nat) (hb : b ≤ l.length) :
    ∃ XA, (∀ w, (Instr.sliceAt 23 (.slice A l.length c) none (some (.int .i64 (b : Int))) (some (.int .i64 (b : Int)))).run Try.prog w = .ok (.slice XA b b) w) ∧ Sd w0 (.slice XA (l.take b).length b) (l.take b) := by
  obtain ⟨A0, c0, e, h1, h2, h3, h4⟩ := hS
  injection e with e1 _ e3
  subst e1 e3
  have hl : (l.take b).length = b := by simp; omega
  refine ⟨if b = 0 then A else A.map (·.add (0 * 2)), fun w => ?_, ?_⟩
  · rw [run_sliceAt_slice _ _ _ _ _ _ elemD, run_slice_hm _ _ _ _ _ elemD _ _ _ _ (by omega) (by omega) (by omega), sizeD]
    simp only [Result.andThen, sliced, Int.toNat_natCast, Nat.sub_zero]
  · refine ⟨_, _, rfl, by omega, by omega, fun hn => ?_, fun h0 => ?_⟩
    · rw [hl]
      by_cases e : b = 0
      · omega
      · rw [if_neg e] at hn
        cases A with
        | none => have := h3 rfl; omega
        | some _ => cases hn
    · rw [hl] at h0
      obtain ⟨bk, off, rfl, hlt, hc⟩ := h4 (by omega)
      rw [if_neg (by omega)]
      refine ⟨bk, off, by simp [Go.WideShapes.add_plain], hlt, fun k hk j u hu => ?_⟩
      rw [hl] at hk
      refine hc k (by omega) j u ?_
      unfold duC at hu ⊢
      rw [nthD_take _ hk] at hu
      exact hu
/-- the boxes of Go and Out -/
structure GB (wx : World) (b : Nat) (now : Int) (v : Value) : Prop where
  c0 : wx.cell? ⟨b, 0, none⟩ = some (.int .i64 now)
  c1 : wx.cell? ⟨b, 1, none⟩ = some v
  r0 : wx.cell? ⟨b + 1, 0, none⟩ = some (.int .i64 0)
  r1 : wx.cell? ⟨b + 1, 1, none⟩ = some (.slice none 0 0)
  fr : ∀ o, wx.frozen? ⟨b + 1, o, none⟩ = false
  sz : b + 1 < wx.heap.size
theorem GB.below {wx wy : World} {b : Nat} {now : Int} {v : Value} {B : Nat} (h : GB wx b now v) (hb : Below B wx wy) (hB : b + 1 < B) : GB wy b now v := by
  have k := fun c o (hc : c < B) => hb.cell (p := ⟨c, o, none⟩) hc
  exact ⟨(k b 0 (by omega)).trans h.c0, (k b 1 (by omega)).trans h.c1, (k (b + 1) 0 (by omega)).trans h.r0, (k (b + 1) 1 (by omega)).trans h.r1, fun o => (hb.frozen (p := ⟨b + 1, o, none⟩) hB).trans (h.fr o), by have := hb.size; have := h.sz; omega⟩
theorem GB.drew {wx : World} {b : Nat} {now : Int} {v : Value} (h : GB wx b now v) : GB wx.drew b now v := ⟨h.c0, h.c1, h.r0, h.r1, h.fr, h.sz⟩
def ClP (k : Nat) (l : List Du) (w : World) (e : Ending) (w' : World) : Prop := ∃ A' c', e = .returned (.slice A' k c') ∧ OwnD w' w.heap.size (.slice A' k c') l ∧ Below w.heap.size w w'
theorem clone_len (A : Option Addr) (c k : Nat) (l : List Du) (w : World) (hk : l.length = k) (hS : Sd w (.slice A l.length c) l) (hl : l.length ≤ 1000000) : Calls Try.prog 6 #[.slice A k c] w (ClP k l w) := by
  subst hk
  exact cloneD_any A c l w hS hl
def GoesT (now ticks : Int) (l : List Du) : Prop := OkTl now l ∧ 0 ≤ ticks ∧ ticks ≤ 1099511627776 - now
/-- n timers are due -/
def DueN (t : Int) (l : List Du) (n : Nat) : Prop := n ≤ l.length ∧ (∀ j x, j < n → l[j]? = some x → x.at_ ≤ t) ∧ ∀ x, l[n]? = some x → ¬ x.at_ ≤ t
def GoGood (now ticks : Int) (l : List Du) (w : World) (e : Ending) (w' : World) : Prop := ∃ n A c B d, DueN (now + ticks) l n ∧ e = .returned (.tuple #[.agg #[.int .i64 (now + ticks), .slice A (l.drop n).length c], .slice B (l.take n).length d, .int .i64 0]) ∧
  OwnD w' w.heap.size (.slice A (l.drop n).length c) (l.drop n) ∧ OwnD w' w.heap.size (.slice B (l.take n).length d) (l.take n) ∧ Below w.heap.size w w'
def GoBad (w : World) (e : Ending) (w' : World) : Prop := ∃ x : Int, x ≠ 0 ∧ e = .returned (.tuple #[.agg #[.int .i64 0, .slice none 0 0], .slice none 0 0, .int .i64 x]) ∧ Below w.heap.size w w'
def GoPost (now ticks : Int) (l : List Du) (w : World) (e : Ending) (w' : World) : Prop := (GoesT now ticks l ∧ GoGood now ticks l w e w') ∨ (¬ GoesT now ticks l ∧ GoBad w e w')
set_option maxHeartbeats 8000000 in
set_option maxRecDepth 100000 in
theorem go_any (now : Int) (A : Option Addr) (c : Nat) (l : List Du) (ticks : Int) (w : World) (hS : Sd w (.slice A l.length c) l) :
    Calls Try.prog 21 #[.agg #[.int .i64 now, .slice A l.length c], .int .i64 ticks] w (GoPost now ticks l w) := by
  have HS := Lib.hid hS
  obtain ⟨k1, k2⟩ : l.length ≤ c ∧ c ≤ 9223372036854775807 := by
    obtain ⟨_, _, e, h1, h2, _, _⟩ := HS.out
    injection e with _ _ e3
    subst e3
    exact ⟨h1, h2⟩
  clear hS
  have HRA := Lib.hid (show Rd w 2 (duC (nthD l)) A l.length by
    obtain ⟨A', c', e, _, _, _, h⟩ := HS.out
    injection e with e1 _ _
    subst e1
    exact h)
  obtain ⟨W0, hW0⟩ : ∃ W0, W0 = (w.alloc (.cells #[.int .i64 now, .slice A l.length c] 25)).alloc (.cells #[.int .i64 0, .slice none 0 0] 25) := ⟨_, rfl⟩
  have HSB := Lib.hid (show GB W0 w.heap.size now (.slice A l.length c) by
    rw [hW0]
    constructor
    any_goals (first | simp [go_sem] | (intro o; simp [go_sem])))
  have HB0 := Lib.hid (show Below w.heap.size w W0 by rw [hW0]; exact ((Below.refl _ _).alloc (Nat.le_refl _) _).alloc (by simp) _)
  have HZ0 := Lib.hid (show W0.heap.size = w.heap.size + 2 by rw [hW0]; simp)
  obtain ⟨b0, b1, b3, b4, bf, bz⟩ := HSB.out
  go_enter Try.func21, Try.ntmps21
  go_wp2_with fail
  rw [← hW0]
  clear hW0
  refine (check_any now A l.length c (nthD l) _ (by omega) (by omega) (HRA.out.below HB0.out)).mono ?_
  rintro e w1 ⟨x, rfl, hx, hb1⟩
  have HX := Lib.hid (show x = 0 ↔ OkTl now l from hx)
  have HSB1 := Lib.hid (HSB.out.below hb1 (by have := HZ0.out; omega))
  have HB1 := Lib.hid (HB0.out.trans (hb1.mono HB0.out.size))
  have hz1 : w.heap.size + 2 ≤ w1.heap.size := by have := hb1.size; have := HZ0.out; omega
  clear hx hb1 b0 b1 b3 b4 bf bz
  have BAD := Lib.hid (show ∀ y : Int, y ≠ 0 → ¬ GoesT now ticks l → GoPost now ticks l w (.returned (.tuple #[.agg #[.int .i64 0, .slice none 0 0], .slice none 0 0, .int .i64 y])) ((w1.setCell ⟨w.heap.size + 1, 0, none⟩ (.int .i64 0)).setCell ⟨w.heap.size + 1, 1, none⟩ (.slice none 0 0)) from
    fun y hy hno => .inr ⟨hno, y, hy, rfl, below_set (below_set HB1.out (by omega)) (by omega)⟩)
  obtain ⟨b0, b1, b3, b4, bf, bz⟩ := HSB1.out
  have x3 : (w1.cell? ⟨w.heap.size + 1, 0, none⟩).isSome = true := by rw [b3]; rfl
  have x4 : (w1.cell? ⟨w.heap.size + 1, 1, none⟩).isSome = true := by rw [b4]; rfl
  by_cases hx0 : x = 0
  rotate_left
  · have e0 : (x != 0) = true := by simpa using hx0
    have HX0 := Lib.hid hx0
    clear hx0
    go_wp2_with fail
    refine bodyPost_ret (v := .tuple #[.agg #[.int .i64 0, .slice none 0 0], .slice none 0 0, .int .i64 x]) (by simp [results, Try.results21, go_sem, x3, x4]) rfl ?_
    exact BAD.out x HX0.out (fun h => HX0.out (HX.out.2 h.1))
  subst hx0
  have HOK := Lib.hid (HX.out.1 rfl)
  have hl100 := HOK.out.1
  obtain ⟨hn1, hn2⟩ := HOK.out.2.1
  by_cases ht1 : ticks < 0
  · have d1 : decide (ticks < 0) = true := by simpa using ht1
    go_wp2_with fail
    refine bodyPost_ret (v := .tuple #[.agg #[.int .i64 0, .slice none 0 0], .slice none 0 0, .int .i64 1]) (by simp [results, Try.results21, go_sem, x3, x4]) rfl ?_
    exact BAD.out 1 (by omega) (fun h => by have := h.2.1; omega)
  have d1 : decide (ticks < 0) = false := by simpa using ht1
  by_cases ht2 : 1099511627776 - now < ticks
  · have d2 : decide (1099511627776 - now < ticks) = true := by simpa using ht2
    go_wp2_with fail
    refine bodyPost_ret (v := .tuple #[.agg #[.int .i64 0, .slice none 0 0], .slice none 0 0, .int .i64 1]) (by simp [results, Try.results21, go_sem, x3, x4]) rfl ?_
    exact BAD.out 1 (by omega) (fun h => by have := h.2.2; omega)
  have d2 : decide (1099511627776 - now < ticks) = false := by simpa using ht2
  go_wp2_with fail
  go_loop [9] (fun i => ∃ n : Nat, n ≤ l.length ∧ i = .int .i64 (n : Int) ∧ (∀ j x, j < n → l[j]? = some x → x.at_ ≤ now + ticks)) (fun i => l.length - (intOf i).toNat)
  case atStart => exact ⟨0, Nat.zero_le _, rfl, fun j x hj => by omega⟩
  case round =>
    obtain ⟨n, hn, rfl, hlow⟩ := hrel
    have HLOW := Lib.hid hlow
    clear hlow
    by_cases hgo : ∃ x, l[n]? = some x ∧ x.at_ ≤ now + ticks
    · obtain ⟨y, hy, hle⟩ := hgo
      have HY := Lib.hid hy
      have hlt : n < l.length := (List.getElem?_eq_some_iff.1 hy).1
      obtain ⟨bk, off, rfl, hbk, hcell⟩ := HRA.out (by omega)
      have hyn : nthD l n = y := by simp [nthD, hy]
      have c0 : w1.cell? ⟨bk, off + n * 2, none⟩ = some (.int .i64 y.at_) := (HB1.out.cell (p := ⟨bk, _, none⟩) hbk).trans (hcell n hlt 0 _ (by unfold duC; rw [hyn]; rfl))
      have e1 : decide ((n : Int) < (l.length : Int)) = true := by simp; omega
      have e1' : decide (n < l.length) = true := by simpa using hlt
      have e2 : decide (y.at_ ≤ now + ticks) = true := by simpa using hle
      clear hcell hyn hy hle
      go_wp2_with fail
      go_round
      case rel =>
        refine ⟨n + 1, by omega, by go_num, fun j x hj hx => ?_⟩
        by_cases ej : j = n
        · subst ej
          rw [HY.out] at hx
          injection hx with hx
          subst hx
          simpa using e2
        · exact HLOW.out j x (by omega) hx
      case measure => simp [intOf]; omega
    · have HD := Lib.hid (show DueN (now + ticks) l n from ⟨hn, HLOW.out, fun x hx hle => hgo ⟨x, hx, hle⟩⟩)
      have HNG := Lib.hid hgo
      obtain ⟨XA, hcutA, hSA⟩ := cutL_from A c l w HS.out n hn
      obtain ⟨XB, hcutB, hSB⟩ := cutL_to A c l w HS.out n hn
      obtain ⟨nA, hnA⟩ : ∃ nA, nA = l.length - n := ⟨_, rfl⟩
      have hlA : (l.drop n).length = nA := by simp; omega
      have hlB : (l.take n).length = n := by simp; omega
      obtain ⟨cA, hcA⟩ : ∃ cA, cA = c - n := ⟨_, rfl⟩
      rw [← hnA, ← hcA] at hcutA
      rw [← hcA] at hSA
      have HCA := Lib.hid (fun W (hW : Below w.heap.size w W) => clone_len XA cA nA (l.drop n) W hlA (hSA.below hW) (by omega))
      have HCB := Lib.hid (fun W (hW : Below w.heap.size w W) => clone_len XB n n (l.take n) W hlB (hSB.below hW) (by omega))
      have HLA := Lib.hid hlA
      have HLB := Lib.hid hlB
      have HD1 := Lib.hid (show Below w.heap.size w w1.drew from HB1.out.drew)
      have hcn : n ≤ c := by omega
      have jn : (0 : Int) ≤ (n : Int) := by omega
      clear hgo hSA hSB hnA hcA hlA hlB
      have hways : (n < l.length ∧ ∃ y, l[n]? = some y ∧ now + ticks < y.at_) ∨ n = l.length := by
        by_cases hlt : n < l.length
        · obtain ⟨y, hy⟩ : ∃ y, l[n]? = some y := ⟨_, List.getElem?_eq_getElem hlt⟩
          exact .inl ⟨hlt, y, hy, by have := HD.out.2.2 y hy; omega⟩
        · exact .inr (by omega)
      have HW := Lib.hid hways
      clear hways
      rcases HW.out with ⟨hlt, y, hy, hle⟩ | he
      · obtain ⟨bk, off, rfl, hbk, hcell⟩ := HRA.out (by omega)
        have hyn : nthD l n = y := by simp [nthD, hy]
        have c0 : w1.cell? ⟨bk, off + n * 2, none⟩ = some (.int .i64 y.at_) := (HB1.out.cell (p := ⟨bk, _, none⟩) hbk).trans (hcell n hlt 0 _ (by unfold duC; rw [hyn]; rfl))
        have e1 : decide ((n : Int) < (l.length : Int)) = true := by simp; omega
        have e1' : decide (n < l.length) = true := by simpa using hlt
        have e2 : decide (y.at_ ≤ now + ticks) = false := by simp; omega
        clear hcell hyn hy hle
        go_wp2_with fail
        go_region_held3 (fun W => W.cell? ⟨w.heap.size, 1, none⟩ = some (.slice (some ⟨bk, off, none⟩) l.length c))
          (first | exact b1 | exact r1 | exact r2 | go_keep)
          (first
            | (go_at_call_of 6 (Value.slice XA nA cA); first
              | (refine (HCA.out w1.drew HD1.out).mono ?_; rintro e wA ⟨A2, d2, rfl, hOA, hbA⟩; have HGA := Lib.hid (HSB1.out.below (below_drew' hbA) bz); have r1 := HGA.out.c1; have HBA := Lib.hid (HB1.out.trans ((below_drew' hbA).mono HB1.out.size)); have HOA := Lib.hid hOA; have hzA := (below_drew' hbA).size; clear hOA hbA)
              | (refine (HCA.out wB HBB.out).mono ?_; rintro e wA ⟨A2, d2, rfl, hOA, hbA⟩; have HGF := Lib.hid (HGB.out.below hbA (by omega)); have r2 := HGF.out.c1; have HBF := Lib.hid (HBB.out.trans (hbA.mono HBB.out.size)); have HOFA := Lib.hid (OwnD.mono hOA HBB.out.size); have HOFB := Lib.hid (OwnD.mono (HOB.out.below hbA) HB1.out.size); obtain ⟨f0, f1, f3, f4, ff, fz⟩ := HGF.out; clear hOA hbA))
            | (go_at_call_of 6 (Value.slice XB n n); first
              | (refine (HCB.out w1.drew HD1.out).mono ?_; rintro e wB ⟨B2, g2, rfl, hOB, hbB⟩; have HGB := Lib.hid (HSB1.out.below (below_drew' hbB) bz); have r1 := HGB.out.c1; have HBB := Lib.hid (HB1.out.trans ((below_drew' hbB).mono HB1.out.size)); have HOB := Lib.hid hOB; have hzB := (below_drew' hbB).size; clear hOB hbB)
              | (refine (HCB.out wA HBA.out).mono ?_; rintro e wB ⟨B2, g2, rfl, hOB, hbB⟩; have HGF := Lib.hid (HGA.out.below hbB (by omega)); have r2 := HGF.out.c1; have HBF := Lib.hid (HBA.out.trans (hbB.mono HBA.out.size)); have HOFB := Lib.hid (show OwnD wB w1.heap.size (.slice B2 n g2) (l.take n) from OwnD.mono hOB hzA); have HOFA := Lib.hid (show OwnD wB w1.heap.size (.slice A2 nA d2) (l.drop n) from HOA.out.below hbB); obtain ⟨f0, f1, f3, f4, ff, fz⟩ := HGF.out; clear hOB hbB)))
        all_goals
          have y3 : (wB.cell? ⟨w.heap.size + 1, 0, none⟩).isSome = true := by rw [f3]; rfl
          have y4 : (wB.cell? ⟨w.heap.size + 1, 1, none⟩).isSome = true := by rw [f4]; rfl
          go_wp2_with fail
          refine bodyPost_ret (v := .tuple #[.agg #[.int .i64 (now + ticks), .slice A2 nA d2], .slice B2 n g2, .int .i64 0]) (by simp [results, Try.results21, go_sem, y3, y4]) rfl ?_
          refine .inl ⟨⟨HOK.out, by omega, by omega⟩, n, A2, d2, B2, g2, HD.out, by rw [HLA.out, HLB.out], ?_, ?_, below_set (below_set HBF.out (by omega)) (by omega)⟩
          · rw [HLA.out]
            exact own_mono (own_set (own_set HOFA.out (by omega)) (by omega)) (by omega)
          · rw [HLB.out]
            exact own_mono (own_set (own_set HOFB.out (by omega)) (by omega)) (by omega)
      · have e1 : decide ((n : Int) < (l.length : Int)) = false := by simp; omega
        have e1' : decide (n < l.length) = false := by simp; omega
        clear he
        go_wp2_with fail
        go_region_held3 (fun W => W.cell? ⟨w.heap.size, 1, none⟩ = some (.slice A l.length c))
          (first | exact b1 | exact r1 | exact r2 | go_keep)
          (first
            | (go_at_call_of 6 (Value.slice XA nA cA); first
              | (refine (HCA.out w1.drew HD1.out).mono ?_; rintro e wA ⟨A2, d2, rfl, hOA, hbA⟩; have HGA := Lib.hid (HSB1.out.below (below_drew' hbA) bz); have r1 := HGA.out.c1; have HBA := Lib.hid (HB1.out.trans ((below_drew' hbA).mono HB1.out.size)); have HOA := Lib.hid hOA; have hzA := (below_drew' hbA).size; clear hOA hbA)
              | (refine (HCA.out wB HBB.out).mono ?_; rintro e wA ⟨A2, d2, rfl, hOA, hbA⟩; have HGF := Lib.hid (HGB.out.below hbA (by omega)); have r2 := HGF.out.c1; have HBF := Lib.hid (HBB.out.trans (hbA.mono HBB.out.size)); have HOFA := Lib.hid (OwnD.mono hOA HBB.out.size); have HOFB := Lib.hid (OwnD.mono (HOB.out.below hbA) HB1.out.size); obtain ⟨f0, f1, f3, f4, ff, fz⟩ := HGF.out; clear hOA hbA))
            | (go_at_call_of 6 (Value.slice XB n n); first
              | (refine (HCB.out w1.drew HD1.out).mono ?_; rintro e wB ⟨B2, g2, rfl, hOB, hbB⟩; have HGB := Lib.hid (HSB1.out.below (below_drew' hbB) bz); have r1 := HGB.out.c1; have HBB := Lib.hid (HB1.out.trans ((below_drew' hbB).mono HB1.out.size)); have HOB := Lib.hid hOB; have hzB := (below_drew' hbB).size; clear hOB hbB)
              | (refine (HCB.out wA HBA.out).mono ?_; rintro e wB ⟨B2, g2, rfl, hOB, hbB⟩; have HGF := Lib.hid (HGA.out.below hbB (by omega)); have r2 := HGF.out.c1; have HBF := Lib.hid (HBA.out.trans (hbB.mono HBA.out.size)); have HOFB := Lib.hid (show OwnD wB w1.heap.size (.slice B2 n g2) (l.take n) from OwnD.mono hOB hzA); have HOFA := Lib.hid (show OwnD wB w1.heap.size (.slice A2 nA d2) (l.drop n) from HOA.out.below hbB); obtain ⟨f0, f1, f3, f4, ff, fz⟩ := HGF.out; clear hOB hbB)))
        all_goals
          have y3 : (wB.cell? ⟨w.heap.size + 1, 0, none⟩).isSome = true := by rw [f3]; rfl
          have y4 : (wB.cell? ⟨w.heap.size + 1, 1, none⟩).isSome = true := by rw [f4]; rfl
          go_wp2_with fail
          refine bodyPost_ret (v := .tuple #[.agg #[.int .i64 (now + ticks), .slice A2 nA d2], .slice B2 n g2, .int .i64 0]) (by simp [results, Try.results21, go_sem, y3, y4]) rfl ?_
          refine .inl ⟨⟨HOK.out, by omega, by omega⟩, n, A2, d2, B2, g2, HD.out, by rw [HLA.out, HLB.out], ?_, ?_, below_set (below_set HBF.out (by omega)) (by omega)⟩
          · rw [HLA.out]
            exact own_mono (own_set (own_set HOFA.out (by omega)) (by omega)) (by omega)
          · rw [HLB.out]
            exact own_mono (own_set (own_set HOFB.out (by omega)) (by omega)) (by omega)
end Go.Proofs.Ytcedogmhmpcfmaa.Ti
namespace Go.Proofs.Ytcedogmhmpcfmaa.Ti
open Go.RowKit
set_option linter.unusedVariables false
theorem Sd.rd {w : World} {A : Option Addr} {n c : Nat} {l : List Du} (h : Sd w (.slice A n c) l) : Rd w 2 (duC (nthD l)) A l.length := by
  obtain ⟨A', c', e, _, _, _, h⟩ := h
  injection e with e1 _ _
  subst e1
  exact h
theorem Sd.cap {w : World} {A : Option Addr} {n c : Nat} {l : List Du} (h : Sd w (.slice A n c) l) : l.length ≤ c ∧ c ≤ 9223372036854775807 := by
  obtain ⟨A', c', e, h1, h2, _, _⟩ := h
  injection e with _ _ e3
  subst e3
  exact ⟨h1, h2⟩
theorem Sd.none {w : World} {A : Option Addr} {n c : Nat} {l : List Du} (h : Sd w (.slice A n c) l) : A = none → l.length = 0 := by
  obtain ⟨A', c', e, _, _, h3, _⟩ := h
  injection e with e1 _ _
  subst e1
  exact h3
set_option maxHeartbeats 1000000 in
theorem equalD_same (A B : Option Addr) (c d : Nat) (l : List Du) (w : World) (hR : Sd w (.slice A l.length c) l) (hS : Sd w (.slice B l.length d) l) :
    Calls Try.prog 12 #[.slice A l.length c, .slice B l.length d] w fun e w' => e = .returned (.bool true) ∧ Below w.heap.size w w' := by
  have HR := Lib.hid (Sd.rd hR)
  have HS := Lib.hid (Sd.rd hS)
  obtain ⟨k1, k2⟩ := Sd.cap hR
  clear hR hS
  go_enter Try.func12, Try.ntmps12
  go_wp2_with fail
  go_loopw [5, 13] (fun _ x wr => ∃ k : Nat, k ≤ l.length ∧ x = .int .i64 k ∧ Below w.heap.size w wr) (fun _ x _ => l.length - (intOf x).toNat)
  case atStart => exact ⟨0, by omega, rfl, Below.refl _ _⟩
  case round =>
    obtain ⟨k, hk, rfl, hB⟩ := hrel
    have HB := Lib.hid hB
    by_cases hlt : k < l.length
    · obtain ⟨b, off, rfl, hb0, hcell⟩ := (HR.out.below hB) (by omega)
      obtain ⟨b', off', rfl, hb0', hcell'⟩ := (HS.out.below hB) (by omega)
      have c0 := hcell k hlt 0 _ rfl
      have c1 := hcell k hlt 1 _ rfl
      have e0 := hcell' k hlt 0 _ rfl
      have e1 := hcell' k hlt 1 _ rfl
      simp only [Nat.add_zero] at c0 e0
      clear hcell hcell' hB
      generalize nthD l k = r at *
      obtain ⟨r1, r2⟩ := r
      dsimp only at c0 c1 e0 e1
      have i1 : (0 : Int) ≤ (k : Int) := by omega
      have i2 : (k : Int) < (l.length : Int) := by omega
      go_wp2_with fail
      go_quiet (fail)
      go_wp2_with fail
      go_roundw
      case rel => exact ⟨k + 1, by omega, by go_num, below_drewN HB.out _⟩
      case measure => simp [intOf]; omega
    · obtain rfl : k = l.length := by omega
      go_wp2_with fail
      go_ret
      exact ⟨rfl, HB.out⟩
end Go.Proofs.Ytcedogmhmpcfmaa.Ti
namespace Go.Proofs.Ytcedogmhmpcfmaa.Ti
open Go.RowKit
set_option linter.unusedVariables false
theorem OwnD.col {w : World} {base b0 : Nat} {v : Value} {l : List Du} (h : OwnD w base v l) (hb : b0 ≤ base) : ColF w b0 2 1 v := by
  unfold OwnD at h
  rw [← flatC_du] at h
  exact ColF.of h (duC_len _) (by omega) (fun k _ => ⟨(nthD l k).id, rfl⟩) hb
theorem set_free (now : Int) (A : Option Addr) (c : Nat) (l : List Du) (id ticks : Int) (w : World) (hS : Sd w (.slice A l.length c) l) :
    Calls Try.prog 20 #[.agg #[.int .i64 now, .slice A l.length c], .int .i64 id, .int .i64 ticks] w fun e w' => ∃ (t : Int) (v : Value) (x : Int), e = .returned (.tuple #[.agg #[.int .i64 t, v], .int .i64 x]) ∧ ColF w' w.heap.size 2 1 v ∧ Below w.heap.size w w' := by
  refine (set_any now A c l id ticks w hS).mono ?_
  rintro e w' (⟨-, B, d, rfl, hO, hb⟩ | ⟨-, x, hx, rfl, hb⟩)
  · exact ⟨_, _, _, rfl, hO.col (Nat.le_refl _), hb⟩
  · exact ⟨_, _, _, rfl, ColF.nil _ _ _ _ _, hb⟩
theorem go_free (now : Int) (A : Option Addr) (c : Nat) (l : List Du) (ticks : Int) (w : World) (hS : Sd w (.slice A l.length c) l) :
    Calls Try.prog 21 #[.agg #[.int .i64 now, .slice A l.length c], .int .i64 ticks] w fun e w' => ∃ (t : Int) (v u : Value) (x : Int), e = .returned (.tuple #[.agg #[.int .i64 t, v], u, .int .i64 x]) ∧ ColF w' w.heap.size 2 1 v ∧ Below w.heap.size w w' := by
  refine (go_any now A c l ticks w hS).mono ?_
  rintro e w' (⟨-, n, B, d, C, f, -, rfl, hO, -, hb⟩ | ⟨-, x, hx, rfl, hb⟩)
  · exact ⟨_, _, _, _, rfl, hO.col (Nat.le_refl _), hb⟩
  · exact ⟨_, _, _, _, rfl, ColF.nil _ _ _ _ _, hb⟩
end Go.Proofs.Ytcedogmhmpcfmaa.Ti
