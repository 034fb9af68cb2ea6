/- Contracts of package limit: amount, find, Check. Equal over equal rows of quotas (as in XLimitLaw). Contracts of package limit: begin, Clone, Take. Contracts of package limit: Take where it is granted. Plain facts on rows of quotas: one more, one less, their sums, their order. slices.Delete of one row of quotas, in a row of the call's own. limit.Join, whatever is asked. Take and Join, whatever is asked: the rows are new. -/
import Derived.Test.YtcedogmhmpcfmaaVoc
import Derived.Deep.QuietTactic
import Derived.BigQuiet
import Derived.RowKit3
import Derived.Test.YtcedogmhmpcfmaaRowOps
import Derived.Deep.RegionHeld3
import Derived.Test.YtcedogmhmpcfmaaOwnGeRow
namespace Go.Proofs.Ytcedogmhmpcfmaa.Lm
open Go.RowKit
set_option linter.unusedVariables false
set_option maxHeartbeats 400000 in
theorem ixL_any (I : World → Prop) (A : Option Addr) (b off n c f : Nat) (cp : Array Value) (g0 g1 g2 g3 g4 : Nat → Value) (p : Nat → Bool) (w : World) (hn : n ≤ 9223372036854775807)
    (hA : 0 < n → A = some ⟨b, off, none⟩) (he : Enters Try.prog f)
    (hc : ∀ W, I W → ∀ k, k < n → W.cell? ⟨b, off + k * 5, none⟩ = some (g0 k) ∧ W.cell? ⟨b, off + k * 5 + 1, none⟩ = some (g1 k) ∧ W.cell? ⟨b, off + k * 5 + 2, none⟩ = some (g2 k) ∧ W.cell? ⟨b, off + k * 5 + 3, none⟩ = some (g3 k) ∧ W.cell? ⟨b, off + k * 5 + 4, none⟩ = some (g4 k))
    (hf : ∀ W, I W → ∀ k, k < n → Calls Try.prog f (#[.agg #[g0 k, g1 k, g2 k, g3 k, g4 k]] ++ cp) W fun e W' => e = .returned (.bool (p k)) ∧ I W') (hw : I w) :
    Calls Try.prog 65 #[.slice A n c, .func (.func f) #[] cp] w fun e w' => e = .returned (.int .i64 (ixOf p n)) ∧ I w' := by
  have HC := Lib.hid hc
  have HF := Lib.hid hf
  have HA := Lib.hid hA
  have HE := Lib.hid he
  clear hc hf hA he
  go_enter Try.func65, Try.ntmps65
  go_wp2_with fail
  go_loopw [5, 4, 8] (fun _ _ i wr => ∃ k : Nat, k ≤ n ∧ i = .int .i64 k ∧ (∀ j, j < k → p j = false) ∧ I wr) (fun _ _ i _ => n - (intOf i).toNat)
  case atStart => exact ⟨0, Nat.zero_le _, rfl, fun j hj => by omega, hw⟩
  case round =>
    obtain ⟨k, hk, rfl, hlow, hI⟩ := hrel
    have HL := Lib.hid hlow
    clear hlow
    by_cases hlt : k < n
    · obtain rfl := HA.out (by omega)
      obtain ⟨hc0, hc1, hc2, hc3, hc4⟩ := HC.out wr hI k hlt
      have hen := HE.out (#[.agg #[g0 k, g1 k, g2 k, g3 k, g4 k]] ++ cp) wr
      go_wp2_with fail
      refine (HF.out wr hI k hlt).mono ?_
      rintro e W' ⟨rfl, hI'⟩
      by_cases hp : p k = true
      · clear hc0 hc1 hc2 hc3 hc4 hen
        go_wp2_with fail
        go_ret
        exact ⟨ret_int (ixOf_found hlt hp HL.out).symm, hI'⟩
      · have hp' : p k = false := by simpa using hp
        clear hc0 hc1 hc2 hc3 hc4 hen hp
        go_wp2_with fail
        go_roundw
        case rel =>
          refine ⟨k + 1, by omega, by go_num, fun j hj => ?_, hI'⟩
          by_cases e : j = k
          · rw [e]; exact hp'
          · exact HL.out j (by omega)
        case measure => simp [intOf]; omega
    · go_wp2_with fail
      go_ret
      exact ⟨ret_int (ixOf_none fun j hj => HL.out j (by omega)).symm, hI⟩

theorem ixL_rd (A : Option Addr) (n c f : Nat) (cp : Array Value) (g0 g1 g2 g3 g4 : Nat → Value) (p : Nat → Bool) (w : World) (hn : n ≤ 9223372036854775807)
    (hR : Rd w 5 (fun k => [g0 k, g1 k, g2 k, g3 k, g4 k]) A n) (he : Enters Try.prog f)
    (hf : ∀ W, Below w.heap.size w W → ∀ k, k < n → Calls Try.prog f (#[.agg #[g0 k, g1 k, g2 k, g3 k, g4 k]] ++ cp) W fun e W' => e = .returned (.bool (p k)) ∧ Below w.heap.size w W') :
    Calls Try.prog 65 #[.slice A n c, .func (.func f) #[] cp] w fun e w' => e = .returned (.int .i64 (ixOf p n)) ∧ Below w.heap.size w w' := by
  by_cases h0 : 0 < n
  · obtain ⟨b, off, hA, hb, hc⟩ := hR h0
    refine ixL_any (fun W => Below w.heap.size w W) A b off n c f cp g0 g1 g2 g3 g4 p w hn (fun _ => hA) he (fun W hW k hk => ?_) hf (Below.refl _ _)
    have hcell : ∀ o, W.cell? ⟨b, o, none⟩ = w.cell? ⟨b, o, none⟩ := fun o => hW.cell (p := ⟨b, o, none⟩) hb
    simp only [hcell]
    exact ⟨by simpa using hc k hk 0 _ rfl, by simpa using hc k hk 1 _ rfl, by simpa using hc k hk 2 _ rfl, by simpa using hc k hk 3 _ rfl, by simpa using hc k hk 4 _ rfl⟩
  · exact ixL_any (fun W => Below w.heap.size w W) A 0 0 n c f cp g0 g1 g2 g3 g4 p w hn (fun h => absurd h h0) he (fun W hW k hk => by omega) hf (Below.refl _ _)

structure LRow where
  ref : Int
  letters : Int
  cells : Int
  maxL : Int
  maxC : Int
def rowC (R : Nat → LRow) : Nat → List Value := fun k => [.int .i64 (R k).ref, .int .i64 (R k).letters, .int .i64 (R k).cells, .int .i64 (R k).maxL, .int .i64 (R k).maxC]
theorem rowC_len (R : Nat → LRow) : ∀ k, (rowC R k).length = 5 := fun _ => rfl
theorem rowC_one (R : Nat → LRow) : ∀ k u, u ∈ rowC R k → u.oneCell' = true := fun k u h => by
  simp [rowC] at h
  rcases h with rfl | rfl | rfl | rfl | rfl <;> rfl
def amtB (n : Int) : Bool := decide (0 ≤ n ∧ n ≤ 1073741824)
set_option maxHeartbeats 400000 in
theorem amount_any (n : Int) (w : World) : Calls Try.prog 42 #[.int .i64 n] w fun e w' => e = .returned (.bool (amtB n)) ∧ w = w' := by
  by_cases h : 0 ≤ n
  · go_enter Try.func42, Try.ntmps42
    go_wp2_with fail
    go_ret
    exact ⟨ret_bool (by simp [amtB, h]), rfl⟩
  · have hd : decide (0 ≤ n) = false := by simpa using h
    go_enter Try.func42, Try.ntmps42
    go_wp2_with fail
    go_ret
    exact ⟨ret_bool (by simp [amtB]; omega), rfl⟩
def refB (R : Nat → LRow) (ref : Int) : Nat → Bool := fun k => (R k).ref == ref
set_option maxHeartbeats 400000 in
theorem find1_any (r : LRow) (ref : Int) (b : Nat) (w : World) (hb : b < w.heap.size) (hc : w.cell? ⟨b, 0, none⟩ = some (.int .i64 ref)) :
    Calls Try.prog 66 #[.agg #[.int .i64 r.ref, .int .i64 r.letters, .int .i64 r.cells, .int .i64 r.maxL, .int .i64 r.maxC], .pointer (some ⟨b, 0, none⟩)] w fun e w' => e = .returned (.bool (r.ref == ref)) ∧ Below w.heap.size w w' := by
  go_enter Try.func66, Try.ntmps66
  go_wp2_with fail
  go_ret
  exact ⟨rfl, (Below.refl _ _).alloc (Nat.le_refl _) _⟩
theorem find1_enters : Enters Try.prog 66 := fun _ _ => by kernel_rfl
set_option maxHeartbeats 400000 in
theorem find_any (A : Option Addr) (n c : Nat) (R : Nat → LRow) (ref : Int) (w : World) (hn : n ≤ 9223372036854775807) (hR : Rd w 5 (rowC R) A n) :
    Calls Try.prog 43 #[.slice A n c, .int .i64 ref] w fun e w' => e = .returned (.int .i64 (ixOf (refB R ref) n)) ∧ Below w.heap.size w w' := by
  have H : ∀ (o : Obj), (w.alloc o).cell? ⟨w.heap.size, 0, none⟩ = some (.int .i64 ref) → Calls Try.prog 65 #[.slice A n c, .func (.func 66) #[] #[.pointer (some ⟨w.heap.size, 0, none⟩)]] (w.alloc o) fun e w' => e = .returned (.int .i64 (ixOf (refB R ref) n)) ∧ Below (w.alloc o).heap.size (w.alloc o) w' := fun o ho =>
    ixL_rd A n c 66 #[.pointer (some ⟨w.heap.size, 0, none⟩)] _ _ _ _ _ (refB R ref) (w.alloc o) hn (hR.alloc o) find1_enters
      fun W hW k _ => (find1_any (R k) ref w.heap.size W (by have := hW.size; simp at this; omega) ((hW.cell (p := ⟨_, _, none⟩) (by simp)).trans ho)).mono fun e W' ⟨he, hb⟩ => ⟨he, hW.trans (hb.mono hW.size)⟩
  have H := Lib.hid H
  clear hR
  go_enter Try.func43, Try.ntmps43
  go_wp2_with fail
  refine (H.out _ (by simp)).mono ?_
  rintro e w1 ⟨rfl, hb⟩
  go_wp2_with fail
  go_ret
  exact ⟨rfl, ((Below.refl _ _).alloc (Nat.le_refl _) _).trans (hb.mono (by simp))⟩

def FineL (r : LRow) : Prop := 0 ≤ r.letters ∧ r.letters ≤ r.maxL ∧ r.maxL ≤ 1073741824 ∧ 0 ≤ r.cells ∧ r.cells ≤ r.maxC ∧ r.maxC ≤ 1073741824
def OkL (R : Nat → LRow) (n : Nat) : Prop := n ≤ 100 ∧ ∀ k, k < n → FineL (R k) ∧ (0 < k → (R (k - 1)).ref < (R k).ref)
def ChkPost (Ok : Prop) (w : World) (e : Ending) (w' : World) : Prop := ∃ x : Int, e = .returned (.int .i64 x) ∧ (x = 0 ↔ Ok) ∧ Below w.heap.size w w'
set_option maxRecDepth 100000 in
set_option maxHeartbeats 2000000 in
theorem check_any (A : Option Addr) (n c : Nat) (R : Nat → LRow) (w : World) (hn : n ≤ c) (hc : c ≤ 9223372036854775807) (hR : Rd w 5 (rowC R) A n) :
    Calls Try.prog 64 #[.slice A n c] w (ChkPost (OkL R n) w) := by
  have HR := Lib.hid hR
  clear hR
  by_cases h60 : 100 < n
  · go_enter Try.func64, Try.ntmps64
    go_wp2_with fail
    go_ret
    exact ⟨2, rfl, ⟨fun h => by omega, fun h => by have := h.1; omega⟩, Below.refl _ _⟩
  · have h60' : n ≤ 100 := by omega
    clear h60
    have d60 : decide (100 < (n : Int)) = false := by simp; omega
    go_enter Try.func64, Try.ntmps64
    go_wp2_with fail
    go_loopw [2, 3, 4, 10, 15, 50] (fun _ _ _ i _ _ wr => ∃ k : Nat, k ≤ n ∧ i = .int .i64 k ∧ (∀ j, j < k → FineL (R j) ∧ (0 < j → (R (j - 1)).ref < (R j).ref)) ∧ Below w.heap.size w wr) (fun _ _ _ i _ _ _ => n - (intOf i).toNat)
    case atStart => exact ⟨0, Nat.zero_le _, rfl, fun j hj => by omega, Below.refl _ _⟩
    case round =>
      obtain ⟨k, hk, rfl, hlow, hB⟩ := hrel
      have HL := Lib.hid hlow
      clear hlow
      by_cases hlt : k < n
      · obtain ⟨b, off, rfl, hb, hcell⟩ := HR.out (by omega)
        have c0 : wr.cell? ⟨b, off + k * 5, none⟩ = some (.int .i64 (R k).ref) := (hB.cell (p := ⟨b, _, none⟩) hb).trans (hcell k hlt 0 _ rfl)
        have c1 : wr.cell? ⟨b, off + k * 5 + 1, none⟩ = some (.int .i64 (R k).letters) := (hB.cell (p := ⟨b, _, none⟩) hb).trans (hcell k hlt 1 _ rfl)
        have c2 : wr.cell? ⟨b, off + k * 5 + 2, none⟩ = some (.int .i64 (R k).cells) := (hB.cell (p := ⟨b, _, none⟩) hb).trans (hcell k hlt 2 _ rfl)
        have c3 : wr.cell? ⟨b, off + k * 5 + 3, none⟩ = some (.int .i64 (R k).maxL) := (hB.cell (p := ⟨b, _, none⟩) hb).trans (hcell k hlt 3 _ rfl)
        have c4 : wr.cell? ⟨b, off + k * 5 + 4, none⟩ = some (.int .i64 (R k).maxC) := (hB.cell (p := ⟨b, _, none⟩) hb).trans (hcell k hlt 4 _ rfl)
        have cp : 0 < k → wr.cell? ⟨b, off + (k - 1) * 5, none⟩ = some (.int .i64 (R (k - 1)).ref) := fun h => (hB.cell (p := ⟨b, _, none⟩) hb).trans (hcell (k - 1) (by omega) 0 _ rfl)
        have CP := Lib.hid cp
        obtain ⟨r, hr⟩ : ∃ r, R k = r := ⟨_, rfl⟩
        rw [hr] at c0 c1 c2 c3 c4
        have HT := Lib.hid hr
        have hBs := hB.size
        clear hr hcell cp
        obtain ⟨ref, letters, cells, maxL, maxC⟩ := r
        dsimp only at c0 c1 c2 c3 c4
        by_cases q1 : amtB maxL = true
        · by_cases q2 : amtB maxC = true
          · have q1' : 0 ≤ maxL ∧ maxL ≤ 1073741824 := by simpa [amtB] using q1
            have q2' : 0 ≤ maxC ∧ maxC ≤ 1073741824 := by simpa [amtB] using q2
            by_cases q3 : letters < 0
            · have d3 : decide (letters < 0) = true := by simpa using q3
              go_wp2_with (go_at_call 42; refine (amount_any _ _).mono ?_; rintro e w' ⟨rfl, rfl⟩)
              go_ret
              exact ⟨1, rfl, ⟨fun h => by omega, fun h => by
                have h1 := (h.2 k hlt).1
                rw [HT.out] at h1
                unfold FineL at h1
                dsimp only at h1
                omega⟩, hB.alloc hBs _⟩
            have d3 : decide (letters < 0) = false := by simpa using q3
            by_cases q4 : maxL < letters
            · have d4 : decide (maxL < letters) = true := by simpa using q4
              go_wp2_with (go_at_call 42; refine (amount_any _ _).mono ?_; rintro e w' ⟨rfl, rfl⟩)
              go_ret
              exact ⟨1, rfl, ⟨fun h => by omega, fun h => by
                have h1 := (h.2 k hlt).1
                rw [HT.out] at h1
                unfold FineL at h1
                dsimp only at h1
                omega⟩, hB.alloc hBs _⟩
            have d4 : decide (maxL < letters) = false := by simpa using q4
            by_cases q5 : cells < 0
            · have d5 : decide (cells < 0) = true := by simpa using q5
              go_wp2_with (go_at_call 42; refine (amount_any _ _).mono ?_; rintro e w' ⟨rfl, rfl⟩)
              go_ret
              exact ⟨1, rfl, ⟨fun h => by omega, fun h => by
                have h1 := (h.2 k hlt).1
                rw [HT.out] at h1
                unfold FineL at h1
                dsimp only at h1
                omega⟩, hB.alloc hBs _⟩
            have d5 : decide (cells < 0) = false := by simpa using q5
            by_cases q6 : maxC < cells
            · have d6 : decide (maxC < cells) = true := by simpa using q6
              go_wp2_with (go_at_call 42; refine (amount_any _ _).mono ?_; rintro e w' ⟨rfl, rfl⟩)
              go_ret
              exact ⟨1, rfl, ⟨fun h => by omega, fun h => by
                have h1 := (h.2 k hlt).1
                rw [HT.out] at h1
                unfold FineL at h1
                dsimp only at h1
                omega⟩, hB.alloc hBs _⟩
            have d6 : decide (maxC < cells) = false := by simpa using q6
            have HF : Hid (FineL ⟨ref, letters, cells, maxL, maxC⟩) := ⟨by simpa using q3, by simpa using q4, q1'.2, by simpa using q5, by simpa using q6, q2'.2⟩
            clear q3 q4 q5 q6 q1' q2'
            by_cases h0 : 0 < k
            · have dk : decide ((0 : Int) < (k : Int)) = true := by simp; omega
              have cp := CP.out h0
              obtain ⟨pr, hpr⟩ : ∃ pr, (R (k - 1)).ref = pr := ⟨_, rfl⟩
              rw [hpr] at cp
              have HP := Lib.hid hpr
              have hbw : b < wr.heap.size := by omega
              have i0 : (0 : Int) ≤ (k : Int) - 1 := by omega
              have i1 : (1 : Int) ≤ (k : Int) := by omega
              have i2 : (k : Int) - 1 < (n : Int) := by omega
              have i3 : IntKind.i64.wrap ((k : Int) - 1) = (k : Int) - 1 := IntWalk.i64_in _ (by omega)
              have i4 : ((k : Int) - 1).toNat = k - 1 := by omega
              clear hpr
              go_wp2_with (go_at_call 42; refine (amount_any _ _).mono ?_; rintro e w' ⟨rfl, rfl⟩)
              go_quiet (fail)
              clear i3 i4
              by_cases q7 : ref ≤ pr
              · have d7 : decide (ref ≤ pr) = true := by simpa using q7
                go_wp2_with fail
                go_ret
                exact ⟨21, rfl, ⟨fun h => by omega, fun h => by
                  have h1 := (h.2 k hlt).2 h0
                  rw [HT.out, HP.out] at h1
                  dsimp only at h1
                  omega⟩, below_drewN (hB.alloc hBs _) _⟩
              · have d7 : decide (ref ≤ pr) = false := by simpa using q7
                go_wp2_with fail
                go_roundw
                case rel =>
                  refine ⟨k + 1, by omega, by go_num, fun j hj => ?_, below_drewN (hB.alloc hBs _) _⟩
                  by_cases e : j = k
                  · subst e
                    rw [HT.out, HP.out]
                    exact ⟨HF.out, fun _ => by dsimp only; omega⟩
                  · exact HL.out j (by omega)
                case measure => simp [intOf]; omega
            · have dk : decide ((0 : Int) < (k : Int)) = false := by simp; omega
              go_wp2_with (go_at_call 42; refine (amount_any _ _).mono ?_; rintro e w' ⟨rfl, rfl⟩)
              go_quiet (fail)
              go_wp2_with fail
              go_roundw
              case rel =>
                refine ⟨k + 1, by omega, by go_num, fun j hj => ?_, below_drewN (hB.alloc hBs _) _⟩
                obtain rfl : j = k := by omega
                rw [HT.out]
                exact ⟨HF.out, fun h => by omega⟩
              case measure => simp [intOf]; omega
          · have q2' : amtB maxC = false := by simpa using q2
            clear q2
            go_wp2_with (go_at_call 42; refine (amount_any _ _).mono ?_; rintro e w' ⟨rfl, rfl⟩)
            go_ret
            exact ⟨1, rfl, ⟨fun h => by omega, fun h => by
              have h1 := (h.2 k hlt).1
              rw [HT.out] at h1
              unfold FineL at h1
              dsimp only at h1
              simp [amtB] at q2'; omega⟩, hB.alloc hBs _⟩
        · have q1' : amtB maxL = false := by simpa using q1
          clear q1
          go_wp2_with (go_at_call 42; refine (amount_any _ _).mono ?_; rintro e w' ⟨rfl, rfl⟩)
          go_ret
          exact ⟨1, rfl, ⟨fun h => by omega, fun h => by
            have h1 := (h.2 k hlt).1
            rw [HT.out] at h1
            unfold FineL at h1
            dsimp only at h1
            simp [amtB] at q1'; omega⟩, hB.alloc hBs _⟩
      · go_wp2_with fail
        go_ret
        exact ⟨0, rfl, ⟨fun _ => ⟨h60', fun j hj => HL.out j (by omega)⟩, fun _ => rfl⟩, hB⟩
end Go.Proofs.Ytcedogmhmpcfmaa.Lm
namespace Go.Proofs.Ytcedogmhmpcfmaa.Lm
open Go.RowKit
set_option linter.unusedVariables false
set_option maxRecDepth 100000 in
set_option maxHeartbeats 4000000 in
/-- two rows that hold the same -/
theorem equalL_same (A B : Option Addr) (n m c d : Nat) (R : Nat → LRow) (w : World) (hnm : n = m) (hn : n ≤ c) (hc : c ≤ 9223372036854775807) (hR : Rd w 5 (rowC R) A n) (hS : Rd w 5 (rowC R) B m) :
    Calls Try.prog 13 #[.slice A n c, .slice B m d] w fun e w' => e = .returned (.bool true) ∧ Below w.heap.size w w' := by
  subst hnm
  have HR := Lib.hid hR
  have HS := Lib.hid hS
  clear hR hS
  go_enter Try.func13, Try.ntmps13
  go_wp2_with fail
  go_loopw [5, 13] (fun _ x wr => ∃ k : Nat, k ≤ n ∧ x = .int .i64 k ∧ Below w.heap.size w wr) (fun _ x _ => n - (intOf x).toNat)
  case atStart => exact ⟨0, by omega, rfl, Below.refl _ _⟩
  case round =>
    obtain ⟨k, hk, rfl, hB⟩ := hrel
    have HB := Lib.hid hB
    by_cases hlt : k < n
    · obtain ⟨b, off, rfl, hb0, hcell⟩ := (HR.out.below hB) (by omega)
      obtain ⟨b', off', rfl, hb0', hcell'⟩ := (HS.out.below hB) (by omega)
      have c0 := hcell k hlt 0 _ rfl
      have c1 := hcell k hlt 1 _ rfl
      have c2 := hcell k hlt 2 _ rfl
      have c3 := hcell k hlt 3 _ rfl
      have c4 := hcell k hlt 4 _ rfl
      have e0 := hcell' k hlt 0 _ rfl
      have e1 := hcell' k hlt 1 _ rfl
      have e2 := hcell' k hlt 2 _ rfl
      have e3 := hcell' k hlt 3 _ rfl
      have e4 := hcell' k hlt 4 _ rfl
      simp only [Nat.add_zero] at c0 e0
      clear hcell hcell' hB
      generalize R k = r at *
      obtain ⟨r1, r2, r3, r4, r5⟩ := r
      dsimp only at c0 c1 c2 c3 c4 e0 e1 e2 e3 e4
      have i1 : (0 : Int) ≤ (k : Int) := by omega
      have i2 : (k : Int) < (n : Int) := by omega
      go_wp2_with fail
      go_quiet (fail)
      go_wp2_with fail
      go_roundw
      case rel => exact ⟨k + 1, by omega, by go_num, below_drewN HB.out _⟩
      case measure => simp [intOf]; omega
    · obtain rfl : k = n := by omega
      go_wp2_with fail
      go_ret
      exact ⟨rfl, HB.out⟩
end Go.Proofs.Ytcedogmhmpcfmaa.Lm
namespace Go.Proofs.Ytcedogmhmpcfmaa.Lm
open Go.RowKit
set_option linter.unusedVariables false
theorem info_cloneL : (Try.prog.info? 40).map (fun i => (i.zero, i.size, i.bytes)) = some (some (.agg #[.int .i64 0, .int .i64 0, .int .i64 0, .int .i64 0, .int .i64 0]), 5, 40) := by kernel_rfl
set_option maxRecDepth 100000 in
set_option maxHeartbeats 400000 in
theorem cloneL (A : Option Addr) (n c : Nat) (g : Nat → List Value) (w : World) (hR : Rd w 5 g A n) (hl : ∀ k, (g k).length = 5) (h1 : ∀ k u, u ∈ g k → u.oneCell' = true)
    (hA : A = none → n = 0) (hn : n * 40 ≤ 140737488355328) :
    Calls Try.prog 7 #[.slice A n c] w (ClonePost 40 5 n (flatC g n) w) := by
  obtain ⟨i0, hi, hz0, hz1, hz2⟩ := info_parts info_cloneL
  have hnil := fun (w : World) => Lib.run_eql_slice_nil (P := Try.prog) w
  cases A with
  | none =>
    obtain rfl := hA rfl
    clear hR hl h1 hA hi hz0 hz1 hz2 hn
    go_enter Try.func7, Try.ntmps7
    go_wp2_with fail
    go_ret
    exact ⟨_, rfl, World.ownsRow_nil _ _ _ _, Below.refl _ _⟩
  | some a =>
    have hn0 : ∀ (o : Obj) j u, (flatC g n)[j]? = some u → (w.alloc o).cell? (a.add j) = some u := fun o j u hu => by
      obtain ⟨q1, q2, q3⟩ := flatC_at hl (by omega) hu
      obtain ⟨b, off, hab, hb, hc⟩ := hR (by omega)
      injection hab with hab
      subst hab
      have e : (⟨b, off, none⟩ : Addr).add j = ⟨b, off + j / 5 * 5 + j % 5, none⟩ := by
        have := Nat.div_add_mod' j 5
        unfold Addr.add
        split
        · rename_i h; subst h; simp
        · simp; omega
      rw [e, World.cell?_alloc_lt _ _ _ hb]
      exact hc _ q1 _ _ q3
    have HN := Lib.hid hn0
    have H1 := Lib.hid h1
    have HL := Lib.hid (flatC_length hl n)
    clear hR hl h1 hA hn0
    go_enter Try.func7, Try.ntmps7
    go_wp2_with (at_builtin; refine wpList_append_own _ rfl _ _ 28 rfl w.heap.size 40 i0 _ 5 40 Try.underlying28 hi hz0 hz1 hz2 rfl (by omega) (.slice (some ⟨w.heap.size, 0, none⟩) 0 0) 0 [] rfl (World.ownsRow_lit w #[] 0 (Nat.le_refl _) (by simp [maxLen]) rfl) a n c (flatC g n) rfl HL.out (HN.out _) (fun u hu => by obtain ⟨k, _, hk⟩ := flatC_mem hu; exact H1.out k u hk) (by unfold maxLen; omega) (by omega) (by simp) ?_; intro v1 w1 hown hgrow _; simp only [Nat.zero_add, List.nil_append] at hown)
    go_ret
    exact ⟨v1, rfl, hown, ((Below.refl _ _).alloc (Nat.le_refl _) _).grown hgrow (by simp) (by simp [Value.ownBlock])⟩

theorem check_ok (A : Option Addr) (n c : Nat) (R : Nat → LRow) (w : World) (hn : n ≤ c) (hc : c ≤ 9223372036854775807) (hR : Rd w 5 (rowC R) A n) (ok : OkL R n) :
    Calls Try.prog 64 #[.slice A n c] w fun e w' => e = .returned (.int .i64 0) ∧ Below w.heap.size w w' :=
  (check_any A n c R w hn hc hR).mono fun _ _ ⟨_, he, hx, hb⟩ => ⟨by rw [he, hx.2 ok], hb⟩
def ErrPost (w : World) (e : Ending) (w' : World) : Prop := ∃ x : Int, e = .returned (.int .i64 x) ∧ x ≠ 0 ∧ Below w.heap.size w w'
theorem check_bad (A : Option Addr) (n c : Nat) (R : Nat → LRow) (w : World) (hn : n ≤ c) (hc : c ≤ 9223372036854775807) (hR : Rd w 5 (rowC R) A n) (ok : ¬ OkL R n) :
    Calls Try.prog 64 #[.slice A n c] w (ErrPost w) :=
  (check_any A n c R w hn hc hR).mono fun _ _ ⟨x, he, hx, hb⟩ => ⟨x, he, fun h => ok (hx.1 h), hb⟩
def BeginErr (w : World) (e : Ending) (w' : World) : Prop := ∃ x : Int, e = .returned (.tuple #[.int .i64 0, .int .i64 x]) ∧ x ≠ 0 ∧ Below w.heap.size w w'
set_option maxHeartbeats 400000 in
theorem begin_err (A : Option Addr) (n c : Nat) (R : Nat → LRow) (ref : Int) (w : World) (hn : n ≤ c) (hc : c ≤ 9223372036854775807) (hR : Rd w 5 (rowC R) A n) (h : ¬ OkL R n ∨ ixOf (refB R ref) n = -1) :
    Calls Try.prog 41 #[.slice A n c, .int .i64 ref] w (BeginErr w) := by
  by_cases ok : OkL R n
  · have hf : ixOf (refB R ref) n = -1 := by rcases h with h | h; exact absurd ok h; exact h
    have H := Lib.hid (check_ok A n c R w hn hc hR ok)
    have HF := Lib.hid hf
    have HR := Lib.hid hR
    clear hR ok h hf
    go_enter Try.func41, Try.ntmps41
    go_wp2_with fail
    refine H.out.mono ?_
    rintro e w1 ⟨rfl, hb⟩
    go_wp2_with fail
    refine (find_any A n c R ref _ (by omega) (HR.out.below hb)).mono ?_
    rintro e w2 ⟨rfl, hb2⟩
    rw [HF.out]
    go_wp2_with fail
    go_ret2
    exact ⟨4, rfl, by omega, hb.trans (hb2.mono hb.size)⟩
  · have H := Lib.hid (check_bad A n c R w hn hc hR ok)
    clear hR ok h
    go_enter Try.func41, Try.ntmps41
    go_wp2_with fail
    refine H.out.mono ?_
    rintro e w1 ⟨x, rfl, hx, hb⟩
    have hx1 : (x != 0) = true := by simpa using hx
    have hx2 : (x == 0) = false := by simpa using hx
    have HX := Lib.hid hx
    clear hx
    go_wp2_with fail
    go_ret2
    exact ⟨x, rfl, HX.out, hb⟩
set_option maxHeartbeats 400000 in
theorem begin_ok (A : Option Addr) (n c : Nat) (R : Nat → LRow) (ref : Int) (k : Nat) (w : World) (hn : n ≤ c) (hc : c ≤ 9223372036854775807) (hR : Rd w 5 (rowC R) A n) (ok : OkL R n) (hf : ixOf (refB R ref) n = k) :
    Calls Try.prog 41 #[.slice A n c, .int .i64 ref] w fun e w' => e = .returned (.tuple #[.int .i64 k, .int .i64 0]) ∧ Below w.heap.size w w' := by
  have H := Lib.hid (check_ok A n c R w hn hc hR ok)
  have HF := Lib.hid hf
  have HR := Lib.hid hR
  clear hR ok hf
  go_enter Try.func41, Try.ntmps41
  go_wp2_with fail
  refine H.out.mono ?_
  rintro e w1 ⟨rfl, hb⟩
  go_wp2_with fail
  refine (find_any A n c R ref _ (by omega) (HR.out.below hb)).mono ?_
  rintro e w2 ⟨rfl, hb2⟩
  rw [HF.out]
  go_wp2_with fail
  go_ret2
  exact ⟨rfl, hb.trans (hb2.mono hb.size)⟩

def updF {α : Type} (f : Nat → α) (k : Nat) (x : α) : Nat → α := fun i => if i = k then x else f i
theorem own_row_set {w : World} {base g cap n k j : Nat} {R : Nat → LRow} (h : w.ownsRow base 40 5 (.slice (some ⟨g, 0, none⟩) n cap) n (flatC (rowC R) n)) (hk : k < n) (hj : j < 5) (r : LRow) (u : Value) (hu : (rowC R k).set j u = rowC (fun _ => r) k) :
    w.frozen? ⟨g, k * 5 + j, none⟩ = false ∧ (w.setCell ⟨g, k * 5 + j, none⟩ u).ownsRow base 40 5 (.slice (some ⟨g, 0, none⟩) n cap) n (flatC (rowC (updF R k r)) n) := by
  refine ⟨h.frozenAt _, ?_⟩
  have h1 := (h.stored (k * 5 + j) u).1
  rw [flatC_set (rowC_len R) hj] at h1
  rw [hu] at h1
  have e : flatC (updC (rowC R) k (rowC (fun _ => r) k)) n = flatC (rowC (updF R k r)) n := flatC_congr fun i _ => by
    unfold updC updF rowC
    by_cases e : i = k <;> simp [e]
  rw [e] at h1
  exact h1
theorem own_row_cell {w : World} {base g cap n k : Nat} {R : Nat → LRow} (h : w.ownsRow base 40 5 (.slice (some ⟨g, 0, none⟩) n cap) n (flatC (rowC R) n)) (hk : k < n) (j : Nat) (hj : j < 5) : w.cell? ⟨g, k * 5 + j, none⟩ = (rowC R k)[j]? := by
  have h2 : (k + 1) * 5 ≤ n * 5 := Nat.mul_le_mul_right _ (by omega)
  rw [h.cellAt _ (by omega), flatC_get (rowC_len R) hk hj]
def RowsErr (w : World) (e : Ending) (w' : World) : Prop := ∃ x : Int, e = .returned (.tuple #[.slice none 0 0, .int .i64 x]) ∧ x ≠ 0 ∧ Below w.heap.size w w'
def RowsPost (n : Nat) (R : Nat → LRow) (w : World) (e : Ending) (w' : World) : Prop := ∃ v, e = .returned (.tuple #[v, .int .i64 0]) ∧ w'.ownsRow w.heap.size 40 5 v n (flatC (rowC R) n) ∧ Below w.heap.size w w'
def OkT (r : LRow) (l c : Int) : Prop := (0 ≤ l ∧ l ≤ 1073741824) ∧ (0 ≤ c ∧ c ≤ 1073741824) ∧ r.letters + l ≤ r.maxL ∧ r.cells + c ≤ r.maxC
def taken (r : LRow) (l c : Int) : LRow := ⟨r.ref, r.letters + l, r.cells + c, r.maxL, r.maxC⟩
set_option maxRecDepth 100000 in
set_option maxHeartbeats 1000000 in
theorem take_err0 (A : Option Addr) (n c : Nat) (R : Nat → LRow) (ref l d : Int) (w : World) (hn : n ≤ c) (hc : c ≤ 9223372036854775807) (hR : Rd w 5 (rowC R) A n) (h : ¬ OkL R n ∨ ixOf (refB R ref) n = -1) :
    Calls Try.prog 24 #[.slice A n c, .int .i64 ref, .int .i64 l, .int .i64 d] w (RowsErr w) := by
  have H := Lib.hid (begin_err A n c R ref w hn hc hR h)
  clear hR h
  go_enter Try.func24, Try.ntmps24
  go_wp2_with fail
  refine H.out.mono ?_
  rintro e w1 ⟨x, rfl, hx, hb⟩
  have hx1 : (x != 0) = true := by simpa using hx
  have hx2 : (x == 0) = false := by simpa using hx
  have HX := Lib.hid hx
  clear hx
  go_wp2_with fail
  go_ret2
  exact ⟨x, rfl, HX.out, hb⟩
set_option maxRecDepth 100000 in
set_option maxHeartbeats 2000000 in
theorem take_err1 (A : Option Addr) (n c : Nat) (R : Nat → LRow) (ref l d : Int) (k : Nat) (w : World) (hn : n ≤ c) (hc : c ≤ 9223372036854775807) (hR : Rd w 5 (rowC R) A n) (ok : OkL R n) (hf : ixOf (refB R ref) n = k) (hk : k < n) (h : ¬ OkT (R k) l d) :
    Calls Try.prog 24 #[.slice A n c, .int .i64 ref, .int .i64 l, .int .i64 d] w (RowsErr w) := by
  have H := Lib.hid (begin_ok A n c R ref k w hn hc hR ok hf)
  obtain ⟨b, off, hA, hb0, hcell⟩ := hR (by omega)
  subst hA
  have c0 : w.cell? ⟨b, off + k * 5, none⟩ = some (.int .i64 (R k).ref) := hcell k hk 0 _ rfl
  have c1 : w.cell? ⟨b, off + k * 5 + 1, none⟩ = some (.int .i64 (R k).letters) := hcell k hk 1 _ rfl
  have c2 : w.cell? ⟨b, off + k * 5 + 2, none⟩ = some (.int .i64 (R k).cells) := hcell k hk 2 _ rfl
  have c3 : w.cell? ⟨b, off + k * 5 + 3, none⟩ = some (.int .i64 (R k).maxL) := hcell k hk 3 _ rfl
  have c4 : w.cell? ⟨b, off + k * 5 + 4, none⟩ = some (.int .i64 (R k).maxC) := hcell k hk 4 _ rfl
  have hfine := (ok.2 k hk).1
  have h100 := ok.1
  generalize R k = r at *
  obtain ⟨rr, rl, rc, rml, rmc⟩ := r
  unfold FineL at hfine
  unfold OkT at h
  dsimp only at c0 c1 c2 c3 c4 hfine h
  obtain ⟨f1, f2, f3, f4, f5, f6⟩ := hfine
  have HH := Lib.hid h
  clear hR ok hf hcell h
  by_cases q1 : amtB l = true
  · have q1' : 0 ≤ l ∧ l ≤ 1073741824 := by simpa [amtB] using q1
    by_cases q2 : amtB d = true
    · have q2' : 0 ≤ d ∧ d ≤ 1073741824 := by simpa [amtB] using q2
      by_cases q3 : rml < rl + l
      · go_enter Try.func24, Try.ntmps24
        go_wp2_with fail
        refine H.out.mono ?_
        rintro e w1 ⟨rfl, hb⟩
        have hz := hb.size
        have hw1 : ∀ o, w1.cell? ⟨b, o, none⟩ = w.cell? ⟨b, o, none⟩ := fun o => hb.cell (p := ⟨b, o, none⟩) hb0
        rw [← hw1] at c0 c1 c2 c3 c4
        clear hw1
        go_wp2_with (go_at_call 42; refine (amount_any _ _).mono ?_; rintro e w' ⟨rfl, rfl⟩)
        go_ret2
        exact ⟨6, rfl, by omega, hb.alloc hz _⟩
      · have q4 : rmc < rc + d := by have := HH.out; omega
        go_enter Try.func24, Try.ntmps24
        go_wp2_with fail
        refine H.out.mono ?_
        rintro e w1 ⟨rfl, hb⟩
        have hz := hb.size
        have hw1 : ∀ o, w1.cell? ⟨b, o, none⟩ = w.cell? ⟨b, o, none⟩ := fun o => hb.cell (p := ⟨b, o, none⟩) hb0
        rw [← hw1] at c0 c1 c2 c3 c4
        clear hw1
        go_wp2_with (go_at_call 42; refine (amount_any _ _).mono ?_; rintro e w' ⟨rfl, rfl⟩)
        go_ret2
        exact ⟨2, rfl, by omega, hb.alloc hz _⟩
    · have q2' : amtB d = false := by simpa using q2
      clear q2
      go_enter Try.func24, Try.ntmps24
      go_wp2_with fail
      refine H.out.mono ?_
      rintro e w1 ⟨rfl, hb⟩
      have hz := hb.size
      have hw1 : ∀ o, w1.cell? ⟨b, o, none⟩ = w.cell? ⟨b, o, none⟩ := fun o => hb.cell (p := ⟨b, o, none⟩) hb0
      rw [← hw1] at c0 c1 c2 c3 c4
      clear hw1
      go_wp2_with (go_at_call 42; refine (amount_any _ _).mono ?_; rintro e w' ⟨rfl, rfl⟩)
      go_ret2
      exact ⟨1, rfl, by omega, hb.alloc hz _⟩
  · have q1' : amtB l = false := by simpa using q1
    clear q1
    go_enter Try.func24, Try.ntmps24
    go_wp2_with fail
    refine H.out.mono ?_
    rintro e w1 ⟨rfl, hb⟩
    have hz := hb.size
    have hw1 : ∀ o, w1.cell? ⟨b, o, none⟩ = w.cell? ⟨b, o, none⟩ := fun o => hb.cell (p := ⟨b, o, none⟩) hb0
    rw [← hw1] at c0 c1 c2 c3 c4
    clear hw1
    go_wp2_with (go_at_call 42; refine (amount_any _ _).mono ?_; rintro e w' ⟨rfl, rfl⟩)
    go_ret2
    exact ⟨1, rfl, by omega, hb.alloc hz _⟩
end Go.Proofs.Ytcedogmhmpcfmaa.Lm
namespace Go.Proofs.Ytcedogmhmpcfmaa.Lm
open Go.RowKit
set_option linter.unusedVariables false
theorem updF_updF {α : Type} (f : Nat → α) (k : Nat) (x y : α) : updF (updF f k x) k y = updF f k y := by
  funext i
  unfold updF
  by_cases e : i = k <;> simp [e]
theorem rowC_const (R : Nat → LRow) (k : Nat) (r : LRow) : rowC (updF R k r) k = rowC (fun _ => r) k := by simp [rowC, updF]
set_option maxRecDepth 100000 in
set_option maxHeartbeats 2000000 in
theorem take_ok (A : Option Addr) (n c : Nat) (R : Nat → LRow) (ref l d : Int) (k : Nat) (w : World) (hn : n ≤ c) (hc : c ≤ 9223372036854775807) (hR : Rd w 5 (rowC R) A n) (ok : OkL R n) (hf : ixOf (refB R ref) n = k) (hk : k < n) (h : OkT (R k) l d) :
    Calls Try.prog 24 #[.slice A n c, .int .i64 ref, .int .i64 l, .int .i64 d] w (RowsPost n (updF R k (taken (R k) l d)) w) := by
  have H := Lib.hid (begin_ok A n c R ref k w hn hc hR ok hf)
  have HR := Lib.hid hR
  obtain ⟨b, off, hA, hb0, hcell⟩ := hR (by omega)
  subst hA
  have c0 : w.cell? ⟨b, off + k * 5, none⟩ = some (.int .i64 (R k).ref) := hcell k hk 0 _ rfl
  have c1 : w.cell? ⟨b, off + k * 5 + 1, none⟩ = some (.int .i64 (R k).letters) := hcell k hk 1 _ rfl
  have c2 : w.cell? ⟨b, off + k * 5 + 2, none⟩ = some (.int .i64 (R k).cells) := hcell k hk 2 _ rfl
  have c3 : w.cell? ⟨b, off + k * 5 + 3, none⟩ = some (.int .i64 (R k).maxL) := hcell k hk 3 _ rfl
  have c4 : w.cell? ⟨b, off + k * 5 + 4, none⟩ = some (.int .i64 (R k).maxC) := hcell k hk 4 _ rfl
  have hfine := (ok.2 k hk).1
  have h100 := ok.1
  obtain ⟨r, hr⟩ : ∃ r, R k = r := ⟨_, rfl⟩
  have HK := Lib.hid hr
  rw [hr] at c0 c1 c2 c3 c4 hfine h ⊢
  obtain ⟨rr, rl, rc, rml, rmc⟩ := r
  unfold FineL at hfine
  unfold OkT at h
  unfold taken
  dsimp only at c0 c1 c2 c3 c4 hfine h ⊢
  obtain ⟨f1, f2, f3, f4, f5, f6⟩ := hfine
  obtain ⟨l1, l2, l3, l4⟩ := h
  have q1 : amtB l = true := by simpa [amtB] using l1
  have q2 : amtB d = true := by simpa [amtB] using l2
  clear hR ok hf hcell hr
  go_enter Try.func24, Try.ntmps24
  go_wp2_with fail
  refine H.out.mono ?_
  rintro e w1 ⟨rfl, hb⟩
  have hz := hb.size
  have hw1 : ∀ o, w1.cell? ⟨b, o, none⟩ = w.cell? ⟨b, o, none⟩ := fun o => hb.cell (p := ⟨b, o, none⟩) hb0
  rw [← hw1] at c0 c1 c2 c3 c4
  clear hw1
  go_wp2_with (go_at_call 42; refine (amount_any _ _).mono ?_; rintro e w' ⟨rfl, rfl⟩)
  refine (cloneL _ n c (rowC R) _ ((HR.out.below hb).alloc _) (rowC_len R) (rowC_one R) (fun h => by cases h) (by omega)).mono ?_
  rintro e w3 ⟨v, rfl, hown, hb3⟩
  have hB3 : Below w.heap.size w w3 := (hb.alloc hz _).trans (hb3.mono (by simp; omega))
  obtain ⟨g, cap, rfl, hbase, hlt, hnc, hcm⟩ := own_form hown (by omega)
  have hbase' : w.heap.size ≤ g := by simp at hbase; omega
  have hown1 := own_mono (base' := w.heap.size) hown (by simp; omega)
  obtain ⟨s1, t1⟩ := own_row_set hown1 hk (j := 1) (by omega) ⟨rr, rl + l, rc, rml, rmc⟩ (.int .i64 (rl + l)) (by simp [rowC, HK.out])
  have e1 : w3.cell? ⟨g, k * 5 + 1, none⟩ = some (.int .i64 rl) := by rw [own_row_cell hown1 hk 1 (by omega)]; simp [rowC, HK.out]
  obtain ⟨s2, t2⟩ := own_row_set t1 hk (j := 2) (by omega) ⟨rr, rl + l, rc + d, rml, rmc⟩ (.int .i64 (rc + d)) (by rw [rowC_const]; simp [rowC])
  have e2 : (w3.setCell ⟨g, k * 5 + 1, none⟩ (.int .i64 (rl + l))).cell? ⟨g, k * 5 + 2, none⟩ = some (.int .i64 rc) := by rw [own_row_cell t1 hk 2 (by omega), rowC_const]; simp [rowC]
  rw [updF_updF] at t2
  have HO := Lib.hid t2
  have HBB := Lib.hid ((hB3.setCell (p := ⟨g, k * 5 + 1, none⟩) hbase' (.int .i64 (rl + l))).setCell (p := ⟨g, k * 5 + 2, none⟩) hbase' (.int .i64 (rc + d)))
  clear hown hown1 t1 t2 hb3 hB3 hbase hbase' hb hz c0 c1 c2 c3 c4
  go_wp2_with fail
  go_ret2
  exact ⟨_, rfl, HO.out, HBB.out⟩
/-- Take, whatever is asked -/
def TakeRes (R : Nat → LRow) (n : Nat) (ref l d : Int) (w : World) (e : Ending) (w' : World) : Prop :=
  (RowsErr w e w' ∧ ¬ (OkL R n ∧ ∃ k, k < n ∧ ixOf (refB R ref) n = (k : Int) ∧ OkT (R k) l d)) ∨
  (∃ k : Nat, OkL R n ∧ k < n ∧ ixOf (refB R ref) n = k ∧ OkT (R k) l d ∧ RowsPost n (updF R k (taken (R k) l d)) w e w')
theorem take_any (A : Option Addr) (n c : Nat) (R : Nat → LRow) (ref l d : Int) (w : World) (hn : n ≤ c) (hc : c ≤ 9223372036854775807) (hR : Rd w 5 (rowC R) A n) :
    Calls Try.prog 24 #[.slice A n c, .int .i64 ref, .int .i64 l, .int .i64 d] w (TakeRes R n ref l d w) := by
  by_cases ok : OkL R n
  · rcases ixOf_cases (refB R ref) n with ⟨e, _⟩ | ⟨k, e, hk, hp, _⟩
    · refine (take_err0 A n c R ref l d w hn hc hR (.inr e)).mono fun _ _ h => .inl ⟨h, fun ⟨_, k, hk, hh, _⟩ => ?_⟩
      rw [e] at hh
      omega
    · by_cases ht : OkT (R k) l d
      · exact (take_ok A n c R ref l d k w hn hc hR ok e hk ht).mono fun _ _ h => .inr ⟨k, ok, hk, e, ht, h⟩
      · refine (take_err1 A n c R ref l d k w hn hc hR ok e hk ht).mono fun _ _ h => .inl ⟨h, fun ⟨_, k', hk', hh, ht'⟩ => ?_⟩
        rw [e] at hh
        obtain rfl : k = k' := by omega
        exact ht ht'
  · exact (take_err0 A n c R ref l d w hn hc hR (.inl ok)).mono fun _ _ h => .inl ⟨h, fun hh => ok hh.1⟩
end Go.Proofs.Ytcedogmhmpcfmaa.Lm
namespace Go.Proofs.Ytcedogmhmpcfmaa.Lm
set_option linter.unusedVariables false
theorem flatC_split (g : Nat → List Value) (p m : Nat) : flatC g (p + m) = flatC g p ++ flatC (fun k => g (p + k)) m := by
  induction m with
  | zero => simp [flatC]
  | succ m ih => rw [show p + (m + 1) = (p + m) + 1 by omega, flatC, ih, flatC, List.append_assoc]
theorem flatC_take {g : Nat → List Value} {sz n p : Nat} (h : ∀ k, (g k).length = sz) (hp : p ≤ n) : (flatC g n).take (p * sz) = flatC g p := by
  obtain ⟨m, rfl⟩ : ∃ m, n = p + m := ⟨n - p, by omega⟩
  rw [flatC_split, List.take_append_of_le_length (by rw [flatC_length h]; omega), List.take_of_length_le (by rw [flatC_length h]; omega)]
theorem flatC_drop {g : Nat → List Value} {sz n p : Nat} (h : ∀ k, (g k).length = sz) (hp : p ≤ n) : (flatC g n).drop (p * sz) = flatC (fun k => g (p + k)) (n - p) := by
  obtain ⟨m, rfl⟩ : ∃ m, n = p + m := ⟨n - p, by omega⟩
  have hl := flatC_length h p
  rw [flatC_split, List.drop_append_of_le_length (by omega), List.drop_eq_nil_of_le (by omega), List.nil_append, Nat.add_sub_cancel_left]
def insF {α : Type} (f : Nat → α) (p : Nat) (x : α) : Nat → α := fun k => if k < p then f k else if k = p then x else f (k - 1)
def delF {α : Type} (f : Nat → α) (i : Nat) : Nat → α := fun k => if k < i then f k else f (k + 1)
theorem ins_flatG {g g' : Nat → List Value} {sz n p : Nat} {x : List Value} (h : ∀ k, (g k).length = sz) (hp : p ≤ n) (hg : g' = insF g p x) :
    (flatC g n).take (p * sz) ++ x ++ (flatC g n).drop (p * sz) = flatC g' (n + 1) := by
  subst hg
  rw [flatC_take h hp, flatC_drop h hp]
  obtain ⟨m, rfl⟩ : ∃ m, n = p + m := ⟨n - p, by omega⟩
  rw [Nat.add_sub_cancel_left, show p + m + 1 = p + (1 + m) by omega, flatC_split, flatC_split, ← List.append_assoc]
  congr 1
  · congr 1
    · exact flatC_congr fun k hk => by simp [insF, hk]
    · simp [flatC, insF]
  · refine flatC_congr fun k hk => ?_
    simp only [insF]
    rw [if_neg (by omega), if_neg (by omega)]
    congr 1
    omega
theorem del_flatG {g : Nat → List Value} {sz n i : Nat} (h : ∀ k, (g k).length = sz) (hi : i < n) : (flatC g n).take (i * sz) ++ (flatC g n).drop ((i + 1) * sz) = flatC (delF g i) (n - 1) := by
  rw [flatC_take h (by omega), flatC_drop h (by omega)]
  obtain ⟨m, rfl⟩ : ∃ m, n = i + 1 + m := ⟨n - (i + 1), by omega⟩
  rw [Nat.add_sub_cancel_left, show i + 1 + m - 1 = i + m by omega, flatC_split]
  congr 1
  · exact flatC_congr fun k hk => by simp [delF, hk]
  · refine flatC_congr fun k hk => ?_
    simp only [delF]
    rw [if_neg (by omega)]
    congr 1
    omega
theorem rowC_ins (R : Nat → LRow) (p : Nat) (x : LRow) : rowC (insF R p x) = insF (rowC R) p (rowC (fun _ => x) 0) := by
  funext k
  simp only [rowC, insF]
  split
  · rfl
  · split <;> rfl
theorem rowC_del (R : Nat → LRow) (i : Nat) : rowC (delF R i) = delF (rowC R) i := by
  funext k
  simp only [rowC, delF]
  split <;> rfl
/-- sums -/
def sumF (f : Nat → Int) : Nat → Int
  | 0 => 0
  | n + 1 => sumF f n + f n
theorem sumF_congr {f g : Nat → Int} {n : Nat} (h : ∀ k, k < n → f k = g k) : sumF f n = sumF g n := by
  induction n with
  | zero => rfl
  | succ n ih => rw [sumF, sumF, ih (fun k hk => h k (by omega)), h n (by omega)]
theorem sumF_upd (f : Nat → Int) {k n : Nat} (hk : k < n) (x : Int) : sumF (updF f k x) n = sumF f n - f k + x := by
  induction n with
  | zero => omega
  | succ n ih =>
    rw [sumF, sumF]
    by_cases e : k = n
    · subst e
      rw [sumF_congr (g := f) (fun j hj => by simp [updF]; omega)]
      simp [updF]
    · rw [ih (by omega)]
      have : updF f k x n = f n := by simp [updF]; omega
      omega
theorem sumF_ins (f : Nat → Int) {p n : Nat} (hp : p ≤ n) (x : Int) : sumF (insF f p x) (n + 1) = sumF f n + x := by
  induction n with
  | zero => obtain rfl : p = 0 := by omega
            simp [sumF, insF]
  | succ n ih =>
    rw [sumF]
    by_cases e : p = n + 1
    · subst e
      rw [sumF_congr (g := f) (fun j hj => by simp [insF, hj])]
      simp [insF]
    · rw [ih (by omega), sumF]
      have : insF f p x (n + 1) = f n := by simp only [insF]; rw [if_neg (by omega), if_neg (by omega)]; rfl
      omega
theorem sumF_del (f : Nat → Int) {i n : Nat} (hi : i < n) : sumF (delF f i) (n - 1) = sumF f n - f i := by
  induction n with
  | zero => omega
  | succ n ih =>
    rw [Nat.add_sub_cancel]
    by_cases e : i = n
    · subst e
      rw [sumF_congr (g := f) (fun j hj => by simp [delF, hj]), sumF]
      omega
    · obtain ⟨m, rfl⟩ : ∃ m, n = m + 1 := ⟨n - 1, by omega⟩
      have h1 := ih (by omega)
      rw [Nat.add_sub_cancel] at h1
      show sumF (delF f i) m + delF f i m = sumF f m + f m + f (m + 1) - f i
      rw [h1]
      show sumF f m + f m - f i + _ = _
      have : delF f i m = f (m + 1) := by simp only [delF]; rw [if_neg (by omega)]
      rw [this]
      omega
def mL (R : Nat → LRow) : Nat → Int := fun k => (R k).maxL
def mC (R : Nat → LRow) : Nat → Int := fun k => (R k).maxC
theorem okL_lt {R : Nat → LRow} {n : Nat} (h : OkL R n) {j k : Nat} (hjk : j < k) (hk : k < n) : (R j).ref < (R k).ref := by
  induction k with
  | zero => omega
  | succ k ih =>
    have h1 := (h.2 (k + 1) hk).2 (by omega)
    rw [Nat.add_sub_cancel] at h1
    by_cases e : j = k
    · subst e; exact h1
    · have := ih (by omega) (by omega); omega
theorem okL_inj {R : Nat → LRow} {n : Nat} (h : OkL R n) {j k : Nat} (hj : j < n) (hk : k < n) (e : (R j).ref = (R k).ref) : j = k := by
  rcases Nat.lt_trichotomy j k with hlt | rfl | hlt
  · have := okL_lt h hlt hk; omega
  · rfl
  · have := okL_lt h hlt hj; omega
theorem okL_upd {R : Nat → LRow} {n k : Nat} (h : OkL R n) (r : LRow) (hr : r.ref = (R k).ref) (hf : FineL r) : OkL (updF R k r) n := by
  refine ⟨h.1, fun j hj => ?_⟩
  obtain ⟨h1, h2⟩ := h.2 j hj
  refine ⟨by unfold updF; split; exact hf; exact h1, fun h0 => ?_⟩
  have h3 := h2 h0
  have e : ∀ i, (updF R k r i).ref = (R i).ref := fun i => by
    unfold updF
    split
    · rename_i e; rw [e, hr]
    · rfl
  rw [e, e]; exact h3
theorem okL_ins {R : Nat → LRow} {n p : Nat} (h : OkL R n) (hn : n < 100) (x : LRow) (hf : FineL x) (hp : p ≤ n) (hlow : ∀ j, j < p → (R j).ref < x.ref) (hup : p < n → ¬ (R p).ref < x.ref) (hne : ∀ j, j < n → (R j).ref ≠ x.ref) : OkL (insF R p x) (n + 1) := by
  refine ⟨by omega, fun j hj => ?_⟩
  by_cases h1 : j < p
  · have e1 : insF R p x j = R j := by simp [insF, h1]
    have e2 : insF R p x (j - 1) = R (j - 1) := by simp only [insF]; rw [if_pos (by omega)]
    rw [e1, e2]
    exact h.2 j (by omega)
  · by_cases h2 : j = p
    · subst h2
      have e1 : insF R j x j = x := by simp [insF]
      rw [e1]
      refine ⟨hf, fun h0 => ?_⟩
      have e2 : insF R j x (j - 1) = R (j - 1) := by simp only [insF]; rw [if_pos (by omega)]
      rw [e2]
      exact hlow _ (by omega)
    · have e1 : insF R p x j = R (j - 1) := by simp only [insF]; rw [if_neg h1, if_neg h2]
      rw [e1]
      refine ⟨(h.2 (j - 1) (by omega)).1, fun h0 => ?_⟩
      by_cases h3 : j - 1 = p
      · have e2 : insF R p x (j - 1) = x := by simp [insF, h3]
        rw [e2, h3]
        have a1 := hup (by omega)
        have a2 := hne p (by omega)
        omega
      · have e2 : insF R p x (j - 1) = R (j - 1 - 1) := by simp only [insF]; rw [if_neg (by omega), if_neg h3]
        rw [e2]
        exact (h.2 (j - 1) (by omega)).2 (by omega)
theorem okL_del {R : Nat → LRow} {n i : Nat} (h : OkL R n) (hi : i < n) : OkL (delF R i) (n - 1) := by
  have := h.1
  refine ⟨by omega, fun j hj => ?_⟩
  by_cases h1 : j < i
  · have e1 : delF R i j = R j := by simp [delF, h1]
    have e2 : delF R i (j - 1) = R (j - 1) := by simp only [delF]; rw [if_pos (by omega)]
    rw [e1, e2]
    exact h.2 j (by omega)
  · have e1 : delF R i j = R (j + 1) := by simp [delF, h1]
    rw [e1]
    refine ⟨(h.2 _ (by omega)).1, fun h0 => ?_⟩
    by_cases h2 : j - 1 < i
    · have e2 : delF R i (j - 1) = R (j - 1) := by simp [delF, h2]
      rw [e2]
      exact okL_lt h (by omega) (by omega)
    · have e2 : delF R i (j - 1) = R j := by simp only [delF]; rw [if_neg h2]; congr 1; omega
      rw [e2]
      exact okL_lt h (by omega) (by omega)
/-- Give -/
def OkG (r : LRow) (l c : Int) : Prop := (0 ≤ l ∧ l ≤ 1073741824) ∧ (0 ≤ c ∧ c ≤ 1073741824) ∧ l ≤ r.letters ∧ c ≤ r.cells
def given (r : LRow) (l c : Int) : LRow := ⟨r.ref, r.letters - l, r.cells - c, r.maxL, r.maxC⟩
/-- Fork -/
def OkF (r : LRow) (l c : Int) : Prop := (0 ≤ l ∧ l ≤ 1073741824) ∧ (0 ≤ c ∧ c ≤ 1073741824) ∧ l ≤ r.maxL - r.letters ∧ c ≤ r.maxC - r.cells
def forked (r : LRow) (l c : Int) : LRow := ⟨r.ref, r.letters, r.cells, r.maxL - l, r.maxC - c⟩
def fkR (R : Nat → LRow) (k p : Nat) (to l c : Int) : Nat → LRow := insF (updF R k (forked (R k) l c)) p ⟨to, 0, 0, l, c⟩
def FkOk (R : Nat → LRow) (n : Nat) (ref to l c : Int) (k p : Nat) : Prop := OkL R n ∧ k < n ∧ (R k).ref = ref ∧ (∀ j, j < n → (R j).ref ≠ to) ∧ OkF (R k) l c ∧ n < 100 ∧
  p ≤ n ∧ (∀ j, j < p → (R j).ref < to) ∧ (p < n → ¬ (R p).ref < to)
/-- Join -/
def joined (r q : LRow) : LRow := ⟨r.ref, r.letters, r.cells, r.maxL + q.maxL, r.maxC + q.maxC⟩
def jnR (R : Nat → LRow) (k i : Nat) : Nat → LRow := delF (updF R k (joined (R k) (R i))) i
def JnOk (R : Nat → LRow) (n : Nat) (ref to : Int) (i k : Nat) : Prop := OkL R n ∧ i < n ∧ k < n ∧ (R i).ref = ref ∧ (R k).ref = to ∧ k ≠ i ∧ (R k).maxL + (R i).maxL ≤ 1073741824 ∧ (R k).maxC + (R i).maxC ≤ 1073741824
theorem upd_ref {R : Nat → LRow} {k : Nat} {r : LRow} (hr : r.ref = (R k).ref) (i : Nat) : (updF R k r i).ref = (R i).ref := by
  unfold updF
  split
  · rename_i e; rw [e, hr]
  · rfl
theorem fork_good {R : Nat → LRow} {n k p : Nat} {ref to l c : Int} (h : FkOk R n ref to l c k p) : OkL (fkR R k p to l c) (n + 1) ∧ sumF (mL (fkR R k p to l c)) (n + 1) = sumF (mL R) n ∧ sumF (mC (fkR R k p to l c)) (n + 1) = sumF (mC R) n := by
  obtain ⟨ok, hk, hr, hne, hf, hn, hp, hlow, hup⟩ := h
  obtain ⟨f1, f2, f3, f4⟩ := hf
  obtain ⟨g1, g2, g3, g4, g5, g6⟩ := (ok.2 k hk).1
  have e := upd_ref (R := R) (k := k) (r := forked (R k) l c) rfl
  refine ⟨okL_ins (okL_upd ok (forked (R k) l c) rfl ⟨g1, ?_, ?_, g4, ?_, ?_⟩) hn ⟨to, 0, 0, l, c⟩ ⟨?_, ?_, ?_, ?_, ?_, ?_⟩ hp (fun j hj => by rw [e]; exact hlow j hj) (fun h => by rw [e]; exact hup h) (fun j hj => by rw [e]; exact hne j hj), ?_, ?_⟩
  any_goals (simp only [forked]; omega)
  · have e1 : mL (fkR R k p to l c) = insF (updF (mL R) k ((R k).maxL - l)) p l := by
      funext j
      simp only [mL, fkR, insF, updF, forked]
      split
      · split <;> rfl
      · split
        · rfl
        · split <;> rfl
    rw [e1, sumF_ins _ hp, sumF_upd _ hk]
    simp only [mL]; omega
  · have e1 : mC (fkR R k p to l c) = insF (updF (mC R) k ((R k).maxC - c)) p c := by
      funext j
      simp only [mC, fkR, insF, updF, forked]
      split
      · split <;> rfl
      · split
        · rfl
        · split <;> rfl
    rw [e1, sumF_ins _ hp, sumF_upd _ hk]
    simp only [mC]; omega
theorem join_good {R : Nat → LRow} {n i k : Nat} {ref to : Int} (h : JnOk R n ref to i k) : OkL (jnR R k i) (n - 1) ∧ sumF (mL (jnR R k i)) (n - 1) = sumF (mL R) n ∧ sumF (mC (jnR R k i)) (n - 1) = sumF (mC R) n := by
  obtain ⟨ok, hi, hk, hri, hrk, hne, h1, h2⟩ := h
  obtain ⟨g1, g2, g3, g4, g5, g6⟩ := (ok.2 k hk).1
  obtain ⟨e1, e2, e3, e4, e5, e6⟩ := (ok.2 i hi).1
  refine ⟨okL_del (okL_upd ok (joined (R k) (R i)) rfl ⟨g1, ?_, ?_, g4, ?_, ?_⟩) hi, ?_, ?_⟩
  any_goals (simp only [joined]; omega)
  · have q : mL (jnR R k i) = delF (updF (mL R) k ((R k).maxL + (R i).maxL)) i := by
      funext j
      simp only [mL, jnR, delF, updF, joined]
      split <;> split <;> rfl
    rw [q, sumF_del _ hi, sumF_upd _ hk]
    have : updF (mL R) k ((R k).maxL + (R i).maxL) i = (R i).maxL := by simp [updF, mL, Ne.symm hne]
    rw [this]
    simp only [mL]; omega
  · have q : mC (jnR R k i) = delF (updF (mC R) k ((R k).maxC + (R i).maxC)) i := by
      funext j
      simp only [mC, jnR, delF, updF, joined]
      split <;> split <;> rfl
    rw [q, sumF_del _ hi, sumF_upd _ hk]
    have : updF (mC R) k ((R k).maxC + (R i).maxC) i = (R i).maxC := by simp [updF, mC, Ne.symm hne]
    rw [this]
    simp only [mC]; omega
theorem sum_bound {R : Nat → LRow} {n : Nat} (h : OkL R n) : ∀ j, j ≤ n → (0 ≤ sumF (mL R) j ∧ sumF (mL R) j ≤ j * 1073741824) ∧ (0 ≤ sumF (mC R) j ∧ sumF (mC R) j ≤ j * 1073741824) := by
  intro j
  induction j with
  | zero => intro _; simp [sumF]
  | succ j ih =>
    intro hj
    obtain ⟨a, b⟩ := ih (by omega)
    obtain ⟨g1, g2, g3, g4, g5, g6⟩ := (h.2 j (by omega)).1
    simp only [sumF, mL, mC] at *
    omega
end Go.Proofs.Ytcedogmhmpcfmaa.Lm
namespace Go.Proofs.Ytcedogmhmpcfmaa.Lm
open Go.RowKit
set_option linter.unusedVariables false
theorem infoR : (Try.prog.info? 40).map (fun i => (i.zero, i.size, i.bytes)) = some (some (.agg #[.int .i64 0, .int .i64 0, .int .i64 0, .int .i64 0, .int .i64 0]), 5, 40) := by kernel_rfl
theorem infoR_size : (Try.prog.info? 40).map (·.size) = some 5 := by kernel_rfl
theorem infoR_zero : ∀ w, (zeroValue 40).run Try.prog w = .ok (.agg #[.int .i64 0, .int .i64 0, .int .i64 0, .int .i64 0, .int .i64 0]) w := fun w => by kernel_rfl
theorem infoR_sizeOf : ∀ w, (Go.sizeOf 40).run Try.prog w = .ok 5 w := fun w => by kernel_rfl
theorem del_list (c xs Z : List Value) (a s N : Nat) (hx : c.take N = xs) (hN : N ≤ c.length) (ha : a + s ≤ N) (L1 : List Value) (hL1 : L1 = c.take a ++ xs.drop (a + s) ++ c.drop (a + (xs.drop (a + s)).length)) (hZ : Z.length = s) :
    (L1.take (N - s) ++ Z ++ L1.drop (N - s + Z.length)).take (N - s) = xs.take a ++ xs.drop (a + s) := by
  have hxl : xs.length = N := by rw [← hx]; simp; omega
  have h1 : L1.length = c.length := by rw [hL1]; simp; omega
  have e1 : L1.take (N - s) = xs.take a ++ xs.drop (a + s) := by
    have h2 : (c.take a ++ xs.drop (a + s)).length = N - s := by simp; omega
    rw [hL1, List.take_append_of_le_length (by omega), List.take_of_length_le (by omega), ← hx, List.take_take]
    congr 2
    omega
  rw [List.append_assoc, List.take_append_of_le_length (by simp; omega), List.take_take, Nat.min_self, e1]
def DelPost1 (base g cap n i : Nat) (xs : List Value) (w : World) (e : Ending) (w' : World) : Prop :=
  e = .returned (.slice (some ⟨g, 0, none⟩) (n - 1) cap) ∧ w'.ownsRow base 40 5 (.slice (some ⟨g, 0, none⟩) (n - 1) cap) (n - 1) (xs.take (i * 5) ++ xs.drop ((i + 1) * 5)) ∧ w.grownBy w' (some g)
set_option maxHeartbeats 4000000 in
set_option maxRecDepth 100000 in
/-- Delete of one element -/
theorem del_one (base g cap n i : Nat) (xs : List Value) (w : World) (hi : i < n) (hown : w.ownsRow base 40 5 (.slice (some ⟨g, 0, none⟩) n cap) n xs) (h1x : ∀ v ∈ xs, v.oneCell' = true) :
    Calls Try.prog 44 #[.slice (some ⟨g, 0, none⟩) n cap, .int .i64 i, .int .i64 ((i : Int) + 1)] w (DelPost1 base g cap n i xs w) := by
  rcases hown.2 with ⟨h', _⟩ | ⟨g', cap', cur, hv, hb, hg, hnc, hcm, hcs, ht⟩
  · cases h'
  obtain ⟨rfl, rfl⟩ : g = g' ∧ cap = cap' := by injection hv with e1 e2 e3; injection e1 with e1; injection e1 with e1; exact ⟨e1, e3⟩
  unfold maxLen at hcm
  have hxl := hown.1
  obtain ⟨i0, hi0, hz0, hzs, hzb⟩ := info_parts infoR
  have hx : ∀ j v, xs[j]? = some v → w.cell? ⟨g, j, none⟩ = some v := fun j v hj => by
    rw [cell_of_row hg]
    rw [← ht, List.getElem?_take] at hj
    split at hj
    · simpa using hj
    · cases hj
  have hsp : ∀ j, j < cap * 5 → (w.cell? ⟨g, j, none⟩).isSome = true := fun j hj => by rw [cell_of_row hg, Array.getElem?_eq_getElem (by omega)]; rfl
  obtain ⟨news, hnews⟩ : ∃ news, news = xs.drop ((i + 1) * 5) := ⟨_, rfl⟩
  have hlen : news.length = (n - (i + 1)) * 5 := by rw [hnews, List.length_drop, hxl]; omega
  obtain ⟨A, hA, hsrc⟩ : ∃ A : Addr, (if cap = i + 1 then some (⟨g, 0, none⟩ : Addr) else some ⟨g, (i + 1) * 5, none⟩) = some A ∧ Hid (∀ t u, news[t]? = some u → w.drew.cell? (A.add t) = some u) := by
    by_cases h : cap = i + 1
    · refine ⟨⟨g, 0, none⟩, by simp [h], fun t u hu => ?_⟩
      have h0 : news.length = 0 := by rw [hlen]; omega
      rw [List.length_eq_zero_iff.1 h0] at hu
      simp at hu
    · refine ⟨⟨g, (i + 1) * 5, none⟩, by simp [h], fun t u hu => ?_⟩
      rw [Addr.add_lit]
      rw [hnews, List.getElem?_drop] at hu
      exact hx _ u hu
  have s1 : Hid (news.length = (n - (i + 1)) * 5) := hlen
  have s2 : Hid (∀ u ∈ news, u.oneCell' = true) := fun u hu => by rw [hnews] at hu; exact h1x u (List.mem_of_mem_drop hu)
  have s3 : Hid (∀ t, t < news.length → (w.drew.cell? ⟨g, 0 + i * 5 + t, none⟩).isSome = true ∧ w.drew.frozen? ⟨g, 0 + i * 5 + t, none⟩ = false) := by
    intro t ht
    rw [hlen] at ht
    exact ⟨hsp _ (by omega), frozen_of_row (w := w.drew) hg⟩
  obtain ⟨W1, hW1⟩ : ∃ W1, W1 = w.drew.setCells g (0 + i * 5) news := ⟨_, rfl⟩
  obtain ⟨L1, hL1⟩ : ∃ L1, L1 = cur.toList.take (i * 5) ++ xs.drop (i * 5 + 5) ++ cur.toList.drop (i * 5 + (xs.drop (i * 5 + 5)).length) := ⟨_, rfl⟩
  have hL1l : L1.length = cap * 5 := by rw [hL1]; simp [hxl, hcs]; omega
  have hg1 : W1.heap[g]? = some (.cells L1.toArray 40 (0, 0)) := by
    rw [hW1, hL1, show i * 5 + 5 = (i + 1) * 5 by omega, ← hnews]
    have := setCells_heap (w := w.drew) (vs := news) (o := 0 + i * 5) hg (by omega)
    rw [Nat.zero_add] at this
    rw [Nat.zero_add]
    exact this
  have hgr1 : w.grownBy W1 (some g) := by rw [hW1]; exact grown_drew (grown_setCells w.drew g _ _)
  obtain ⟨Z, hZ⟩ : ∃ Z, Z = (Builtin.zeroCells (.agg #[.int .i64 0, .int .i64 0, .int .i64 0, .int .i64 0, .int .i64 0] : Value).cells 1).toList := ⟨_, rfl⟩
  have hZl : Z.length = 5 := by rw [hZ, zeroCells_len]; rfl
  have hZ1 : ∀ v ∈ Z, v.oneCell' = true := by
    have e : (Builtin.zeroCells (.agg #[.int .i64 0, .int .i64 0, .int .i64 0, .int .i64 0, .int .i64 0] : Value).cells 1).toList = (.agg #[.int .i64 0, .int .i64 0, .int .i64 0, .int .i64 0, .int .i64 0] : Value).cells.toList := by kernel_rfl
    rw [hZ, e]
    intro v hv
    simp [Value.cells] at hv
    rcases hv with rfl | rfl | rfl | rfl | rfl <;> rfl
  have hnn : n - (i + (n - (i + 1))) = 1 := by omega
  have hcl : ∀ ty, (Builtin.clear_ #[28] ty #[.slice (some ⟨g, (i + (n - (i + 1))) * 5, none⟩) (n - (i + (n - (i + 1)))) (cap - (i + (n - (i + 1))))]).run Try.prog W1 = .ok (.tuple #[]) (W1.setCells g ((i + (n - (i + 1))) * 5) Z) := fun ty => by
    rw [hnn, hZ]
    exact run_clear_sz W1 _ 40 ty _ Try.underlying28 infoR_zero g _ 1 _ (by omega) (fun j hj => by rw [← hZ, hZl] at hj; rw [cell_of_row hg1, Array.getElem?_eq_getElem (by simp [hL1l]; omega)]; rfl) (fun j hj => frozen_of_row hg1) (by rw [← hZ]; exact hZ1)
  have FIN : Hid (DelPost1 base g cap n i xs w (.returned (.slice (some ⟨g, 0, none⟩) (i + (n - (i + 1))) cap)) (W1.setCells g ((i + (n - (i + 1))) * 5) Z)) := by
    have e1 : i + (n - (i + 1)) = n - 1 := by omega
    rw [e1]
    refine ⟨rfl, ⟨by simp [hxl]; omega, .inr ⟨g, cap, _, rfl, hb, setCells_heap hg1 (by simp [hL1l, hZl]; omega), by omega, by unfold maxLen; omega, by simp [hL1l, hZl]; omega, ?_⟩⟩, grown_step hgr1 (grown_setCells _ _ _ _) (.inl rfl)⟩
    have := del_list cur.toList xs Z (i * 5) 5 (n * 5) ht (by simp; omega) (by omega) L1 hL1 hZl
    rw [show (i + 1) * 5 = i * 5 + 5 by omega, show (n - 1) * 5 = n * 5 - 5 by omega]
    simpa using this
  have hW : Hid (W1 = w.drew.setCells g (0 + i * 5) news) := hW1
  have hic : i ≤ cap := by omega
  have hjc : i + 1 ≤ cap := by omega
  have hjn : i + 1 ≤ n := by omega
  have htn : ((i : Int) + 1).toNat = i + 1 := by omega
  have hb1 : (0 : Int) ≤ (i : Int) + 1 := by omega
  have hq1 : (i : Int) ≤ (i : Int) + 1 := by omega
  have hq2 : (i : Int) + 1 ≤ (n : Int) := by omega
  have hq3 : (i : Int) ≤ (n : Int) := by omega
  have hq4 : ((i : Int) == (i : Int) + 1) = false := by simp; omega
  clear hown hg hv ht hcs hx hsp hnews hlen hL1 hL1l hg1 hgr1 hZ hZl hZ1 hnn hxl hW1 h1x
  go_enter Try.func44, Try.ntmps44
  go_wp2_with fail
  go_region_law (refine step_append_room rfl (.tmp 22) (.tmp 25) 28 rfl 40 i0 5 Try.underlying28 hi0 hzs g 0 i cap (by simp [Act.eval, Act.put]) A (n - (i + 1)) (cap - (i + 1)) news (by simp [Act.eval, Act.put]) s1.out hsrc.out s2.out (by omega) s3.out ?_; rw [← hW.out])
  go_wp2_with fail
  go_ret
  exact FIN.out

end Go.Proofs.Ytcedogmhmpcfmaa.Lm
namespace Go.Proofs.Ytcedogmhmpcfmaa.Lm
open Go.RowKit
set_option linter.unusedVariables false
theorem no_ref {R : Nat → LRow} {n : Nat} {ref : Int} (h : ixOf (refB R ref) n = -1) : ∀ j, j < n → (R j).ref ≠ ref := by
  rcases ixOf_cases (refB R ref) n with ⟨_, hno⟩ | ⟨k, e, _⟩
  · intro j hj e
    have := hno j hj
    simp [refB, e] at this
  · rw [h] at e; omega
def JoinRes (R : Nat → LRow) (n : Nat) (ref to : Int) (w : World) (e : Ending) (w' : World) : Prop :=
  (RowsErr w e w' ∧ ¬ ∃ i k, JnOk R n ref to i k) ∨ ∃ i k, JnOk R n ref to i k ∧ RowsPost (n - 1) (jnR R k i) w e w'
set_option maxRecDepth 100000 in
set_option maxHeartbeats 8000000 in
theorem join_any (A : Option Addr) (n c : Nat) (R : Nat → LRow) (ref to : Int) (w : World) (hn : n ≤ c) (hc : c ≤ 9223372036854775807) (hR : Rd w 5 (rowC R) A n) :
    Calls Try.prog 25 #[.slice A n c, .int .i64 ref, .int .i64 to] w (JoinRes R n ref to w) := by
  by_cases ok : OkL R n
  rotate_left
  · have HBAD : ¬ OkL R n ∨ ixOf (refB R ref) n = -1 := .inl ok
    have HNO : ¬ ∃ i k, JnOk R n ref to i k := fun ⟨i, k, h⟩ => ok h.1
    have H := Lib.hid (begin_err A n c R ref w hn hc hR HBAD)
    clear hR
    go_enter Try.func25, Try.ntmps25
    go_wp2_with fail
    refine H.out.mono ?_
    rintro e w1 ⟨x, rfl, hx, hb⟩
    have hx1 : (x != 0) = true := by simpa using hx
    have hx2 : (x == 0) = false := by simpa using hx
    have HX := Lib.hid hx
    clear hx
    go_wp2_with fail
    go_ret2
    exact .inl ⟨⟨x, rfl, HX.out, hb⟩, HNO⟩
  rcases ixOf_cases (refB R ref) n with ⟨ei, hno⟩ | ⟨k, ei, hk, hp, _⟩
  · have HBAD : ¬ OkL R n ∨ ixOf (refB R ref) n = -1 := .inr ei
    have HNO : ¬ ∃ i k, JnOk R n ref to i k := fun ⟨i, k, h⟩ => no_ref ei i h.2.1 h.2.2.2.1
    have H := Lib.hid (begin_err A n c R ref w hn hc hR HBAD)
    clear hR
    go_enter Try.func25, Try.ntmps25
    go_wp2_with fail
    refine H.out.mono ?_
    rintro e w1 ⟨x, rfl, hx, hb⟩
    have hx1 : (x != 0) = true := by simpa using hx
    have hx2 : (x == 0) = false := by simpa using hx
    have HX := Lib.hid hx
    clear hx
    go_wp2_with fail
    go_ret2
    exact .inl ⟨⟨x, rfl, HX.out, hb⟩, HNO⟩
  have hrf : (R k).ref = ref := by simpa [refB] using hp
  have H := Lib.hid (begin_ok A n c R ref k w hn hc hR ok ei)
  have HR := Lib.hid hR
  have HOKL := Lib.hid ok
  have HUN := Lib.hid (show ∀ i, i < n → (R i).ref = ref → i = k from fun i hi h => okL_inj ok hi hk (h.trans hrf.symm))
  have HIN := Lib.hid (show ∀ i j, i < n → j < n → (R i).ref = (R j).ref → i = j from fun i j hi hj h => okL_inj ok hi hj h)
  obtain ⟨b, off, hA, hb0, hcell⟩ := hR (by omega)
  subst hA
  have c0 : w.cell? ⟨b, off + k * 5, none⟩ = some (.int .i64 (R k).ref) := hcell k hk 0 _ rfl
  have c1 : w.cell? ⟨b, off + k * 5 + 1, none⟩ = some (.int .i64 (R k).letters) := hcell k hk 1 _ rfl
  have c2 : w.cell? ⟨b, off + k * 5 + 2, none⟩ = some (.int .i64 (R k).cells) := hcell k hk 2 _ rfl
  have c3 : w.cell? ⟨b, off + k * 5 + 3, none⟩ = some (.int .i64 (R k).maxL) := hcell k hk 3 _ rfl
  have c4 : w.cell? ⟨b, off + k * 5 + 4, none⟩ = some (.int .i64 (R k).maxC) := hcell k hk 4 _ rfl
  have hfine := (ok.2 k hk).1
  have h100 := ok.1
  obtain ⟨r, hr⟩ : ∃ r, R k = r := ⟨_, rfl⟩
  have HK := Lib.hid hr
  rw [hr] at c0 c1 c2 c3 c4 hfine
  obtain ⟨rr, rl, rc, rml, rmc⟩ := r
  unfold FineL at hfine
  dsimp only at c0 c1 c2 c3 c4 hfine
  obtain ⟨f1, f2, f3, f4, f5, f6⟩ := hfine
  rw [hr] at hrf
  dsimp only at hrf
  subst hrf
  have HC := Lib.hid hcell
  clear hR ei hcell hr hp
  go_enter Try.func25, Try.ntmps25
  go_wp2_with fail
  refine H.out.mono ?_
  rintro e w1 ⟨rfl, hb⟩
  have hz := hb.size
  have HB := Lib.hid hb
  clear hb H
  go_wp2_with fail
  refine (find_any _ n c R to _ (by omega) (by exact HR.out.below HB.out)).mono ?_
  rintro e w2 ⟨rfl, hb2⟩
  have HB2 := Lib.hid (HB.out.trans (hb2.mono hz))
  have hz2 := HB2.out.size
  clear hb2 hz HB
  rcases ixOf_cases (refB R to) n with ⟨et, hno⟩ | ⟨kt, et, hkt, hpt, _⟩
  · rw [et]
    have HNE := Lib.hid (no_ref et)
    clear et hno
    go_wp2_with fail
    go_ret2
    exact .inl ⟨⟨4, rfl, by omega, HB2.out⟩, fun ⟨i, k, h⟩ => HNE.out k h.2.2.1 h.2.2.2.2.1⟩
  rw [et]
  have hrt : (R kt).ref = to := by simpa [refB] using hpt
  have HUT := Lib.hid (show ∀ i, i < n → (R i).ref = to → i = kt from fun i hi h => HIN.out i kt hi hkt (h.trans hrt.symm))
  have HRT := Lib.hid hrt
  have kt0 : ¬ ((kt : Int) < 0) := by omega
  clear et hpt hrt
  by_cases qe : kt = k
  · have d0 : ((kt : Int) == (k : Int)) = true := by simp [qe]
    have HQ := Lib.hid qe
    clear qe
    go_wp2_with fail
    go_ret2
    exact .inl ⟨⟨18, rfl, by omega, HB2.out⟩, fun ⟨i, j, h⟩ => h.2.2.2.2.2.1 (by
      rw [HUT.out j h.2.2.1 h.2.2.2.2.1, HQ.out, HUN.out i h.2.1 h.2.2.2.1])⟩
  have d0 : ((kt : Int) == (k : Int)) = false := by simp; omega
  have hfit := (ok.2 kt hkt).1
  obtain ⟨rt, hrt⟩ : ∃ rt, R kt = rt := ⟨_, rfl⟩
  have HKT := Lib.hid hrt
  have hw2 : ∀ o, w2.cell? ⟨b, o, none⟩ = w.cell? ⟨b, o, none⟩ := fun o => HB2.out.cell (p := ⟨b, o, none⟩) hb0
  have a3 := (hw2 _).trans (HC.out kt hkt 3 _ rfl)
  have a4 := (hw2 _).trans (HC.out kt hkt 4 _ rfl)
  rw [← hw2] at c0 c1 c2 c3 c4
  rw [hrt] at a3 a4 hfit
  obtain ⟨tr, tl, tc, tml, tmc⟩ := rt
  unfold FineL at hfit
  dsimp only at a3 a4 hfit
  obtain ⟨g1, g2, g3, g4, g5, g6⟩ := hfit
  have hbw : b < w2.heap.size := by omega
  clear hw2 ok hrt
  have i1 : (0 : Int) ≤ (kt : Int) := by omega
  have i2 : (kt : Int) < (n : Int) := by omega
  have i3 : (0 : Int) ≤ (k : Int) := by omega
  have i4 : (k : Int) < (n : Int) := by omega
  by_cases q1 : 1073741824 < tml + rml
  · have d1 : decide (1073741824 < tml + rml) = true := by simpa using q1
    go_wp2_with fail
    go_quiet (fail)
    go_wp2_with fail
    go_ret2
    exact .inl ⟨⟨2, rfl, by omega, below_drewN HB2.out _⟩, fun ⟨i, j, h⟩ => by
      have h1 := h.2.2.2.2.2.2.1
      rw [HUN.out i h.2.1 h.2.2.2.1, HUT.out j h.2.2.1 h.2.2.2.2.1, HK.out, HKT.out] at h1
      dsimp only at h1
      omega⟩
  have d1 : decide (1073741824 < tml + rml) = false := by simpa using q1
  by_cases q2 : 1073741824 < tmc + rmc
  · have d2 : decide (1073741824 < tmc + rmc) = true := by simpa using q2
    go_wp2_with fail
    go_quiet (fail)
    go_wp2_with fail
    go_ret2
    exact .inl ⟨⟨2, rfl, by omega, below_drewN HB2.out _⟩, fun ⟨i, j, h⟩ => by
      have h1 := h.2.2.2.2.2.2.2
      rw [HUN.out i h.2.1 h.2.2.2.1, HUT.out j h.2.2.1 h.2.2.2.2.1, HK.out, HKT.out] at h1
      dsimp only at h1
      omega⟩
  have d2 : decide (1073741824 < tmc + rmc) = false := by simpa using q2
  go_wp2_with fail
  go_quiet (fail)
  go_wp2_with fail
  refine (cloneL _ n c (rowC R) _ (by exact HR.out.below (below_drewN HB2.out _)) (rowC_len R) (rowC_one R) (fun h => by cases h) (by omega)).mono ?_
  rintro e w3 ⟨v, rfl, hown, hb3⟩
  have hB3 : Below w.heap.size w w3 := (below_drewN HB2.out _).trans (hb3.mono hz2)
  obtain ⟨g, cap, rfl, hbase, hlt, hnc, hcm⟩ := own_form hown (by omega)
  have hbase2 : w2.heap.size ≤ g := hbase
  have hbase' : w.heap.size ≤ g := by omega
  have hown1 := own_mono (base' := w.heap.size) hown hz2
  obtain ⟨s1, t1⟩ := own_row_set hown1 hkt (j := 3) (by omega) ⟨tr, tl, tc, tml + rml, tmc⟩ (.int .i64 (tml + rml)) (by simp [rowC, HKT.out])
  have u1 : w3.cell? ⟨g, kt * 5 + 3, none⟩ = some (.int .i64 tml) := by rw [own_row_cell hown1 hkt 3 (by omega)]; simp [rowC, HKT.out]
  obtain ⟨s2, t2⟩ := own_row_set t1 hkt (j := 4) (by omega) ⟨tr, tl, tc, tml + rml, tmc + rmc⟩ (.int .i64 (tmc + rmc)) (by rw [rowC_const]; simp [rowC])
  have u2 : (w3.setCell ⟨g, kt * 5 + 3, none⟩ (.int .i64 (tml + rml))).cell? ⟨g, kt * 5 + 4, none⟩ = some (.int .i64 tmc) := by rw [own_row_cell t1 hkt 4 (by omega), rowC_const]; simp [rowC]
  rw [updF_updF] at t2
  have hB4 := (hB3.setCell (p := ⟨g, kt * 5 + 3, none⟩) hbase' (.int .i64 (tml + rml))).setCell (p := ⟨g, kt * 5 + 4, none⟩) hbase' (.int .i64 (tmc + rmc))
  have b3 : w3.cell? ⟨b, off + k * 5 + 3, none⟩ = some (.int .i64 rml) := (hb3.cell (p := ⟨b, _, none⟩) hbw).trans c3
  have hbg : b ≠ g := by omega
  have b4 : (w3.setCell ⟨g, kt * 5 + 3, none⟩ (.int .i64 (tml + rml))).cell? ⟨b, off + k * 5 + 4, none⟩ = some (.int .i64 rmc) := by
    rw [World.cell?_setCell_other _ _ _ _ (by simp)]
    exact (hb3.cell (p := ⟨b, _, none⟩) hbw).trans c4
  have HBB := Lib.hid hB4
  obtain ⟨R', hR'⟩ : ∃ R', R' = updF R kt ⟨tr, tl, tc, tml + rml, tmc + rmc⟩ := ⟨_, rfl⟩
  rw [← hR'] at t2
  have HRE := Lib.hid (show R' = updF R kt (joined (R kt) (R k)) by rw [hR', HKT.out, HK.out]; rfl)
  have HO := Lib.hid t2
  have hg3 : g < w3.heap.size := hlt
  clear hown hown1 t1 t2 hb3 hB3 hbase c0 c1 c2 c3 c4 a3 a4 HR hR' hB4
  go_wp2_with fail
  go_region
  go_wp2_with fail
  go_region
  go_wp2_with fail
  refine (del_one w.heap.size g cap n k (flatC (rowC R') n) _ hk (by exact HO.out) (fun u hu => by obtain ⟨q, _, hq⟩ := flatC_mem hu; exact rowC_one _ q u hq)).mono ?_
  rintro e w5 ⟨rfl, hown5, hg5⟩
  have HO5 := Lib.hid hown5
  have HB5 := Lib.hid (below_grown HBB.out HBB.out.size (grown_drew (grown_drew hg5)) (fun q hq => by injection hq with hq; omega))
  clear hown5 hg5
  go_wp2_with fail
  go_ret2
  refine .inr ⟨k, kt, ⟨HOKL.out, hk, hkt, by rw [HK.out], HRT.out, qe, ?_, ?_⟩, _, rfl, ?_, HB5.out⟩
  · rw [HK.out, HKT.out]; simpa using q1
  · rw [HK.out, HKT.out]; simpa using q2
  · have e := HO5.out
    rw [del_flatG (rowC_len R') hk, ← rowC_del] at e
    unfold jnR
    rw [← HRE.out]
    exact e
end Go.Proofs.Ytcedogmhmpcfmaa.Lm
namespace Go.Proofs.Ytcedogmhmpcfmaa.Lm
open Go.RowKit
set_option linter.unusedVariables false
def RowsFree (w : World) (e : Ending) (w' : World) : Prop := ∃ (v : Value) (x : Int), e = .returned (.tuple #[v, .int .i64 x]) ∧ ColF w' w.heap.size 5 0 v ∧ Below w.heap.size w w'
theorem rows_free {n : Nat} {R : Nat → LRow} {w : World} {e : Ending} {w' : World} (h : RowsPost n R w e w') : RowsFree w e w' := by
  obtain ⟨v, rfl, hO, hb⟩ := h
  exact ⟨v, 0, rfl, ColF.of hO (fun k => rfl) (by omega) (fun k _ => ⟨(R k).ref, rfl⟩) (Nat.le_refl _), hb⟩
theorem take_free (A : Option Addr) (n c : Nat) (R : Nat → LRow) (ref l d : Int) (w : World) (hn : n ≤ c) (hc : c ≤ 9223372036854775807) (hR : Rd w 5 (rowC R) A n) :
    Calls Try.prog 24 #[.slice A n c, .int .i64 ref, .int .i64 l, .int .i64 d] w (RowsFree w) := by
  refine (take_any A n c R ref l d w hn hc hR).mono ?_
  rintro e w' (⟨⟨x, rfl, hx, hb⟩, -⟩ | ⟨k, -, -, -, -, h⟩)
  · exact ⟨_, x, rfl, ColF.nil _ _ _ _ _, hb⟩
  · exact rows_free h
theorem join_free (A : Option Addr) (n c : Nat) (R : Nat → LRow) (ref to : Int) (w : World) (hn : n ≤ c) (hc : c ≤ 9223372036854775807) (hR : Rd w 5 (rowC R) A n) :
    Calls Try.prog 25 #[.slice A n c, .int .i64 ref, .int .i64 to] w (RowsFree w) := by
  refine (join_any A n c R ref to w hn hc hR).mono ?_
  rintro e w' (⟨⟨x, rfl, hx, hb⟩, -⟩ | ⟨i, k, -, h⟩)
  · exact ⟨_, x, rfl, ColF.nil _ _ _ _ _, hb⟩
  · exact rows_free h
end Go.Proofs.Ytcedogmhmpcfmaa.Lm
