/- Contracts of package limit: amount, find, Check. -/
import Derived.Test.YtjcegplockihfaaVoc
import Derived.Deep.QuietTactic
import Derived.BigQuiet
namespace Go.Proofs.Ytjcegplockihfaa
open Go.RowKit
set_option linter.unusedVariables false
set_option maxHeartbeats 400000 in
theorem ixL_any (I : World → Prop) (A : Option Addr) (b off n c f : Nat) (cp : Array Value) (g0 g1 g2 g3 g4 : Nat → Value) (p : Nat → Bool) (w : World) (hn : n ≤ 9223372036854775807)
    (hA : 0 < n → A = some ⟨b, off, none⟩) (he : Enters Try.prog f)
    (hc : ∀ W, I W → ∀ k, k < n → W.cell? ⟨b, off + k * 5, none⟩ = some (g0 k) ∧ W.cell? ⟨b, off + k * 5 + 1, none⟩ = some (g1 k) ∧ W.cell? ⟨b, off + k * 5 + 2, none⟩ = some (g2 k) ∧ W.cell? ⟨b, off + k * 5 + 3, none⟩ = some (g3 k) ∧ W.cell? ⟨b, off + k * 5 + 4, none⟩ = some (g4 k))
    (hf : ∀ W, I W → ∀ k, k < n → Calls Try.prog f (#[.agg #[g0 k, g1 k, g2 k, g3 k, g4 k]] ++ cp) W fun e W' => e = .returned (.bool (p k)) ∧ I W') (hw : I w) :
    Calls Try.prog 16 #[.slice A n c, .func (.func f) #[] cp] w fun e w' => e = .returned (.int .i64 (ixOf p n)) ∧ I w' := by
  have HC := Lib.hid hc
  have HF := Lib.hid hf
  have HA := Lib.hid hA
  have HE := Lib.hid he
  clear hc hf hA he
  go_enter Try.func16, Try.ntmps16
  go_wp2_with fail
  go_loopw [5, 4, 8] (fun _ _ i wr => ∃ k : Nat, k ≤ n ∧ i = .int .i64 k ∧ (∀ j, j < k → p j = false) ∧ I wr) (fun _ _ i _ => n - (intOf i).toNat)
  case atStart => exact ⟨0, Nat.zero_le _, rfl, fun j hj => by omega, hw⟩
  case round =>
    obtain ⟨k, hk, rfl, hlow, hI⟩ := hrel
    have HL := Lib.hid hlow
    clear hlow
    by_cases hlt : k < n
    · obtain rfl := HA.out (by omega)
      obtain ⟨hc0, hc1, hc2, hc3, hc4⟩ := HC.out wr hI k hlt
      have hen := HE.out (#[.agg #[g0 k, g1 k, g2 k, g3 k, g4 k]] ++ cp) wr
      go_wp2_with fail
      refine (HF.out wr hI k hlt).mono ?_
      rintro e W' ⟨rfl, hI'⟩
      by_cases hp : p k = true
      · clear hc0 hc1 hc2 hc3 hc4 hen
        go_wp2_with fail
        go_ret
        exact ⟨ret_int (ixOf_found hlt hp HL.out).symm, hI'⟩
      · have hp' : p k = false := by simpa using hp
        clear hc0 hc1 hc2 hc3 hc4 hen hp
        go_wp2_with fail
        go_roundw
        case rel =>
          refine ⟨k + 1, by omega, by go_num, fun j hj => ?_, hI'⟩
          by_cases e : j = k
          · rw [e]; exact hp'
          · exact HL.out j (by omega)
        case measure => simp [intOf]; omega
    · go_wp2_with fail
      go_ret
      exact ⟨ret_int (ixOf_none fun j hj => HL.out j (by omega)).symm, hI⟩

theorem ixL_rd (A : Option Addr) (n c f : Nat) (cp : Array Value) (g0 g1 g2 g3 g4 : Nat → Value) (p : Nat → Bool) (w : World) (hn : n ≤ 9223372036854775807)
    (hR : Rd w 5 (fun k => [g0 k, g1 k, g2 k, g3 k, g4 k]) A n) (he : Enters Try.prog f)
    (hf : ∀ W, Below w.heap.size w W → ∀ k, k < n → Calls Try.prog f (#[.agg #[g0 k, g1 k, g2 k, g3 k, g4 k]] ++ cp) W fun e W' => e = .returned (.bool (p k)) ∧ Below w.heap.size w W') :
    Calls Try.prog 16 #[.slice A n c, .func (.func f) #[] cp] w fun e w' => e = .returned (.int .i64 (ixOf p n)) ∧ Below w.heap.size w w' := by
  by_cases h0 : 0 < n
  · obtain ⟨b, off, hA, hb, hc⟩ := hR h0
    refine ixL_any (fun W => Below w.heap.size w W) A b off n c f cp g0 g1 g2 g3 g4 p w hn (fun _ => hA) he (fun W hW k hk => ?_) hf (Below.refl _ _)
    have hcell : ∀ o, W.cell? ⟨b, o, none⟩ = w.cell? ⟨b, o, none⟩ := fun o => hW.cell (p := ⟨b, o, none⟩) hb
    simp only [hcell]
    exact ⟨by simpa using hc k hk 0 _ rfl, by simpa using hc k hk 1 _ rfl, by simpa using hc k hk 2 _ rfl, by simpa using hc k hk 3 _ rfl, by simpa using hc k hk 4 _ rfl⟩
  · exact ixL_any (fun W => Below w.heap.size w W) A 0 0 n c f cp g0 g1 g2 g3 g4 p w hn (fun h => absurd h h0) he (fun W hW k hk => by omega) hf (Below.refl _ _)

structure LRow where
  ref : Int
  letters : Int
  cells : Int
  maxL : Int
  maxC : Int
def rowC (R : Nat → LRow) : Nat → List Value := fun k => [.int .i64 (R k).ref, .int .i64 (R k).letters, .int .i64 (R k).cells, .int .i64 (R k).maxL, .int .i64 (R k).maxC]
theorem rowC_len (R : Nat → LRow) : ∀ k, (rowC R k).length = 5 := fun _ => rfl
theorem rowC_one (R : Nat → LRow) : ∀ k u, u ∈ rowC R k → u.oneCell' = true := fun k u h => by
  simp [rowC] at h
  rcases h with rfl | rfl | rfl | rfl | rfl <;> rfl
def amtB (n : Int) : Bool := decide (0 ≤ n ∧ n ≤ 1073741824)
set_option maxHeartbeats 400000 in
theorem amount_any (n : Int) (w : World) : Calls Try.prog 45 #[.int .i64 n] w fun e w' => e = .returned (.bool (amtB n)) ∧ w = w' := by
  by_cases h : 0 ≤ n
  · go_enter Try.func45, Try.ntmps45
    go_wp2_with fail
    go_ret
    exact ⟨ret_bool (by simp [amtB, h]), rfl⟩
  · have hd : decide (0 ≤ n) = false := by simpa using h
    go_enter Try.func45, Try.ntmps45
    go_wp2_with fail
    go_ret
    exact ⟨ret_bool (by simp [amtB]; omega), rfl⟩
def refB (R : Nat → LRow) (ref : Int) : Nat → Bool := fun k => (R k).ref == ref
set_option maxHeartbeats 400000 in
theorem find1_any (r : LRow) (ref : Int) (b : Nat) (w : World) (hb : b < w.heap.size) (hc : w.cell? ⟨b, 0, none⟩ = some (.int .i64 ref)) :
    Calls Try.prog 61 #[.agg #[.int .i64 r.ref, .int .i64 r.letters, .int .i64 r.cells, .int .i64 r.maxL, .int .i64 r.maxC], .pointer (some ⟨b, 0, none⟩)] w fun e w' => e = .returned (.bool (r.ref == ref)) ∧ Below w.heap.size w w' := by
  go_enter Try.func61, Try.ntmps61
  go_wp2_with fail
  go_ret
  exact ⟨rfl, (Below.refl _ _).alloc (Nat.le_refl _) _⟩
theorem find1_enters : Enters Try.prog 61 := fun _ _ => by kernel_rfl
set_option maxHeartbeats 400000 in
theorem find_any (A : Option Addr) (n c : Nat) (R : Nat → LRow) (ref : Int) (w : World) (hn : n ≤ 9223372036854775807) (hR : Rd w 5 (rowC R) A n) :
    Calls Try.prog 47 #[.slice A n c, .int .i64 ref] w fun e w' => e = .returned (.int .i64 (ixOf (refB R ref) n)) ∧ Below w.heap.size w w' := by
  have H : ∀ (o : Obj), (w.alloc o).cell? ⟨w.heap.size, 0, none⟩ = some (.int .i64 ref) → Calls Try.prog 16 #[.slice A n c, .func (.func 61) #[] #[.pointer (some ⟨w.heap.size, 0, none⟩)]] (w.alloc o) fun e w' => e = .returned (.int .i64 (ixOf (refB R ref) n)) ∧ Below (w.alloc o).heap.size (w.alloc o) w' := fun o ho =>
    ixL_rd A n c 61 #[.pointer (some ⟨w.heap.size, 0, none⟩)] _ _ _ _ _ (refB R ref) (w.alloc o) hn (hR.alloc o) find1_enters
      fun W hW k _ => (find1_any (R k) ref w.heap.size W (by have := hW.size; simp at this; omega) ((hW.cell (p := ⟨_, _, none⟩) (by simp)).trans ho)).mono fun e W' ⟨he, hb⟩ => ⟨he, hW.trans (hb.mono hW.size)⟩
  have H := Lib.hid H
  clear hR
  go_enter Try.func47, Try.ntmps47
  go_wp2_with fail
  refine (H.out _ (by simp)).mono ?_
  rintro e w1 ⟨rfl, hb⟩
  go_wp2_with fail
  go_ret
  exact ⟨rfl, ((Below.refl _ _).alloc (Nat.le_refl _) _).trans (hb.mono (by simp))⟩

def FineL (r : LRow) : Prop := 0 ≤ r.letters ∧ r.letters ≤ r.maxL ∧ r.maxL ≤ 1073741824 ∧ 0 ≤ r.cells ∧ r.cells ≤ r.maxC ∧ r.maxC ≤ 1073741824
def OkL (R : Nat → LRow) (n : Nat) : Prop := n ≤ 100 ∧ ∀ k, k < n → FineL (R k) ∧ (0 < k → (R (k - 1)).ref < (R k).ref)
def ChkPost (Ok : Prop) (w : World) (e : Ending) (w' : World) : Prop := ∃ x : Int, e = .returned (.int .i64 x) ∧ (x = 0 ↔ Ok) ∧ Below w.heap.size w w'
set_option maxRecDepth 100000 in
set_option maxHeartbeats 2000000 in
theorem check_any (A : Option Addr) (n c : Nat) (R : Nat → LRow) (w : World) (hn : n ≤ c) (hc : c ≤ 9223372036854775807) (hR : Rd w 5 (rowC R) A n) :
    Calls Try.prog 19 #[.slice A n c] w (ChkPost (OkL R n) w) := by
  have HR := Lib.hid hR
  clear hR
  by_cases h60 : 100 < n
  · go_enter Try.func19, Try.ntmps19
    go_wp2_with fail
    go_ret
    exact ⟨2, rfl, ⟨fun h => by omega, fun h => by have := h.1; omega⟩, Below.refl _ _⟩
  · have h60' : n ≤ 100 := by omega
    clear h60
    have d60 : decide (100 < (n : Int)) = false := by simp; omega
    go_enter Try.func19, Try.ntmps19
    go_wp2_with fail
    go_loopw [2, 3, 4, 10, 15, 50] (fun _ _ _ i _ _ wr => ∃ k : Nat, k ≤ n ∧ i = .int .i64 k ∧ (∀ j, j < k → FineL (R j) ∧ (0 < j → (R (j - 1)).ref < (R j).ref)) ∧ Below w.heap.size w wr) (fun _ _ _ i _ _ _ => n - (intOf i).toNat)
    case atStart => exact ⟨0, Nat.zero_le _, rfl, fun j hj => by omega, Below.refl _ _⟩
    case round =>
      obtain ⟨k, hk, rfl, hlow, hB⟩ := hrel
      have HL := Lib.hid hlow
      clear hlow
      by_cases hlt : k < n
      · obtain ⟨b, off, rfl, hb, hcell⟩ := HR.out (by omega)
        have c0 : wr.cell? ⟨b, off + k * 5, none⟩ = some (.int .i64 (R k).ref) := (hB.cell (p := ⟨b, _, none⟩) hb).trans (hcell k hlt 0 _ rfl)
        have c1 : wr.cell? ⟨b, off + k * 5 + 1, none⟩ = some (.int .i64 (R k).letters) := (hB.cell (p := ⟨b, _, none⟩) hb).trans (hcell k hlt 1 _ rfl)
        have c2 : wr.cell? ⟨b, off + k * 5 + 2, none⟩ = some (.int .i64 (R k).cells) := (hB.cell (p := ⟨b, _, none⟩) hb).trans (hcell k hlt 2 _ rfl)
        have c3 : wr.cell? ⟨b, off + k * 5 + 3, none⟩ = some (.int .i64 (R k).maxL) := (hB.cell (p := ⟨b, _, none⟩) hb).trans (hcell k hlt 3 _ rfl)
        have c4 : wr.cell? ⟨b, off + k * 5 + 4, none⟩ = some (.int .i64 (R k).maxC) := (hB.cell (p := ⟨b, _, none⟩) hb).trans (hcell k hlt 4 _ rfl)
        have cp : 0 < k → wr.cell? ⟨b, off + (k - 1) * 5, none⟩ = some (.int .i64 (R (k - 1)).ref) := fun h => (hB.cell (p := ⟨b, _, none⟩) hb).trans (hcell (k - 1) (by omega) 0 _ rfl)
        have CP := Lib.hid cp
        obtain ⟨r, hr⟩ : ∃ r, R k = r := ⟨_, rfl⟩
        rw [hr] at c0 c1 c2 c3 c4
        have HT := Lib.hid hr
        have hBs := hB.size
        clear hr hcell cp
        obtain ⟨ref, letters, cells, maxL, maxC⟩ := r
        dsimp only at c0 c1 c2 c3 c4
        by_cases q1 : amtB maxL = true
        · by_cases q2 : amtB maxC = true
          · have q1' : 0 ≤ maxL ∧ maxL ≤ 1073741824 := by simpa [amtB] using q1
            have q2' : 0 ≤ maxC ∧ maxC ≤ 1073741824 := by simpa [amtB] using q2
            by_cases q3 : letters < 0
            · have d3 : decide (letters < 0) = true := by simpa using q3
              go_wp2_with (go_at_call 45; refine (amount_any _ _).mono ?_; rintro e w' ⟨rfl, rfl⟩)
              go_ret
              exact ⟨1, rfl, ⟨fun h => by omega, fun h => by
                have h1 := (h.2 k hlt).1
                rw [HT.out] at h1
                unfold FineL at h1
                dsimp only at h1
                omega⟩, hB.alloc hBs _⟩
            have d3 : decide (letters < 0) = false := by simpa using q3
            by_cases q4 : maxL < letters
            · have d4 : decide (maxL < letters) = true := by simpa using q4
              go_wp2_with (go_at_call 45; refine (amount_any _ _).mono ?_; rintro e w' ⟨rfl, rfl⟩)
              go_ret
              exact ⟨1, rfl, ⟨fun h => by omega, fun h => by
                have h1 := (h.2 k hlt).1
                rw [HT.out] at h1
                unfold FineL at h1
                dsimp only at h1
                omega⟩, hB.alloc hBs _⟩
            have d4 : decide (maxL < letters) = false := by simpa using q4
            by_cases q5 : cells < 0
            · have d5 : decide (cells < 0) = true := by simpa using q5
              go_wp2_with (go_at_call 45; refine (amount_any _ _).mono ?_; rintro e w' ⟨rfl, rfl⟩)
              go_ret
              exact ⟨1, rfl, ⟨fun h => by omega, fun h => by
                have h1 := (h.2 k hlt).1
                rw [HT.out] at h1
                unfold FineL at h1
                dsimp only at h1
                omega⟩, hB.alloc hBs _⟩
            have d5 : decide (cells < 0) = false := by simpa using q5
            by_cases q6 : maxC < cells
            · have d6 : decide (maxC < cells) = true := by simpa using q6
              go_wp2_with (go_at_call 45; refine (amount_any _ _).mono ?_; rintro e w' ⟨rfl, rfl⟩)
              go_ret
              exact ⟨1, rfl, ⟨fun h => by omega, fun h => by
                have h1 := (h.2 k hlt).1
                rw [HT.out] at h1
                unfold FineL at h1
                dsimp only at h1
                omega⟩, hB.alloc hBs _⟩
            have d6 : decide (maxC < cells) = false := by simpa using q6
            have HF : Hid (FineL ⟨ref, letters, cells, maxL, maxC⟩) := ⟨by simpa using q3, by simpa using q4, q1'.2, by simpa using q5, by simpa using q6, q2'.2⟩
            clear q3 q4 q5 q6 q1' q2'
            by_cases h0 : 0 < k
            · have dk : decide ((0 : Int) < (k : Int)) = true := by simp; omega
              have cp := CP.out h0
              obtain ⟨pr, hpr⟩ : ∃ pr, (R (k - 1)).ref = pr := ⟨_, rfl⟩
              rw [hpr] at cp
              have HP := Lib.hid hpr
              have hbw : b < wr.heap.size := by omega
              have i0 : (0 : Int) ≤ (k : Int) - 1 := by omega
              have i1 : (1 : Int) ≤ (k : Int) := by omega
              have i2 : (k : Int) - 1 < (n : Int) := by omega
              have i3 : IntKind.i64.wrap ((k : Int) - 1) = (k : Int) - 1 := IntWalk.i64_in _ (by omega)
              have i4 : ((k : Int) - 1).toNat = k - 1 := by omega
              clear hpr
              go_wp2_with (go_at_call 45; refine (amount_any _ _).mono ?_; rintro e w' ⟨rfl, rfl⟩)
              go_quiet (fail)
              clear i3 i4
              by_cases q7 : ref ≤ pr
              · have d7 : decide (ref ≤ pr) = true := by simpa using q7
                go_wp2_with fail
                go_ret
                exact ⟨21, rfl, ⟨fun h => by omega, fun h => by
                  have h1 := (h.2 k hlt).2 h0
                  rw [HT.out, HP.out] at h1
                  dsimp only at h1
                  omega⟩, below_drewN (hB.alloc hBs _) _⟩
              · have d7 : decide (ref ≤ pr) = false := by simpa using q7
                go_wp2_with fail
                go_roundw
                case rel =>
                  refine ⟨k + 1, by omega, by go_num, fun j hj => ?_, below_drewN (hB.alloc hBs _) _⟩
                  by_cases e : j = k
                  · subst e
                    rw [HT.out, HP.out]
                    exact ⟨HF.out, fun _ => by dsimp only; omega⟩
                  · exact HL.out j (by omega)
                case measure => simp [intOf]; omega
            · have dk : decide ((0 : Int) < (k : Int)) = false := by simp; omega
              go_wp2_with (go_at_call 45; refine (amount_any _ _).mono ?_; rintro e w' ⟨rfl, rfl⟩)
              go_quiet (fail)
              go_wp2_with fail
              go_roundw
              case rel =>
                refine ⟨k + 1, by omega, by go_num, fun j hj => ?_, below_drewN (hB.alloc hBs _) _⟩
                obtain rfl : j = k := by omega
                rw [HT.out]
                exact ⟨HF.out, fun h => by omega⟩
              case measure => simp [intOf]; omega
          · have q2' : amtB maxC = false := by simpa using q2
            clear q2
            go_wp2_with (go_at_call 45; refine (amount_any _ _).mono ?_; rintro e w' ⟨rfl, rfl⟩)
            go_ret
            exact ⟨1, rfl, ⟨fun h => by omega, fun h => by
              have h1 := (h.2 k hlt).1
              rw [HT.out] at h1
              unfold FineL at h1
              dsimp only at h1
              simp [amtB] at q2'; omega⟩, hB.alloc hBs _⟩
        · have q1' : amtB maxL = false := by simpa using q1
          clear q1
          go_wp2_with (go_at_call 45; refine (amount_any _ _).mono ?_; rintro e w' ⟨rfl, rfl⟩)
          go_ret
          exact ⟨1, rfl, ⟨fun h => by omega, fun h => by
            have h1 := (h.2 k hlt).1
            rw [HT.out] at h1
            unfold FineL at h1
            dsimp only at h1
            simp [amtB] at q1'; omega⟩, hB.alloc hBs _⟩
      · go_wp2_with fail
        go_ret
        exact ⟨0, rfl, ⟨fun _ => ⟨h60', fun j hj => HL.out j (by omega)⟩, fun _ => rfl⟩, hB⟩
end Go.Proofs.Ytjcegplockihfaa
