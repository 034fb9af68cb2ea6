/- Contracts of package blob: find and Check. -/
import Derived.Test.YtelpommocgmdjaaVoc
import Derived.Deep.RegionHeld3
import Derived.WalkSmall
import Derived.Deep.QuietTactic
import Derived.BigQuiet
namespace Go.Proofs.Ytelpommocgmdjaa
open Go.RowKit
set_option maxHeartbeats 400000 in
theorem ixB_any (I : World → Prop) (A : Option Addr) (b off n c f : Nat) (cp : Array Value) (g0 g1 : Nat → Value) (p : Nat → Bool) (w : World) (hn : n ≤ 9223372036854775807)
    (hA : 0 < n → A = some ⟨b, off, none⟩) (he : Enters Try.prog f)
    (hc : ∀ W, I W → ∀ k, k < n → W.cell? ⟨b, off + k * 2, none⟩ = some (g0 k) ∧ W.cell? ⟨b, off + k * 2 + 1, none⟩ = some (g1 k))
    (hf : ∀ W, I W → ∀ k, k < n → Calls Try.prog f (#[.agg #[g0 k, g1 k]] ++ cp) W fun e W' => e = .returned (.bool (p k)) ∧ I W') (hw : I w) :
    Calls Try.prog 66 #[.slice A n c, .func (.func f) #[] cp] w fun e w' => e = .returned (.int .i64 (ixOf p n)) ∧ I w' := by
  have HC := Lib.hid hc
  have HF := Lib.hid hf
  have HA := Lib.hid hA
  have HE := Lib.hid he
  clear hc hf hA he
  go_enter Try.func66, Try.ntmps66
  go_wp2_with fail
  go_loopw [5, 4, 8] (fun _ _ i wr => ∃ k : Nat, k ≤ n ∧ i = .int .i64 k ∧ (∀ j, j < k → p j = false) ∧ I wr) (fun _ _ i _ => n - (intOf i).toNat)
  case atStart => exact ⟨0, Nat.zero_le _, rfl, fun j hj => by omega, hw⟩
  case round =>
    obtain ⟨k, hk, rfl, hlow, hI⟩ := hrel
    have HL := Lib.hid hlow
    clear hlow
    by_cases hlt : k < n
    · obtain rfl := HA.out (by omega)
      obtain ⟨hc0, hc1⟩ := HC.out wr hI k hlt
      have hen := HE.out (#[.agg #[g0 k, g1 k]] ++ cp) wr
      go_wp2_with fail
      refine (HF.out wr hI k hlt).mono ?_
      rintro e W' ⟨rfl, hI'⟩
      by_cases hp : p k = true
      · clear hc0 hc1 hen
        go_wp2_with fail
        go_ret
        exact ⟨ret_int (ixOf_found hlt hp HL.out).symm, hI'⟩
      · have hp' : p k = false := by simpa using hp
        clear hc0 hc1 hen hp
        go_wp2_with fail
        go_roundw
        case rel =>
          refine ⟨k + 1, by omega, by go_num, fun j hj => ?_, hI'⟩
          by_cases e : j = k
          · rw [e]; exact hp'
          · exact HL.out j (by omega)
        case measure => simp [intOf]; omega
    · go_wp2_with fail
      go_ret
      exact ⟨ret_int (ixOf_none fun j hj => HL.out j (by omega)).symm, hI⟩

theorem ixB_rd (A : Option Addr) (n c f : Nat) (cp : Array Value) (g0 g1 : Nat → Value) (p : Nat → Bool) (w : World) (hn : n ≤ 9223372036854775807)
    (hR : Rd w 2 (fun k => [g0 k, g1 k]) A n) (he : Enters Try.prog f)
    (hf : ∀ W, Below w.heap.size w W → ∀ k, k < n → Calls Try.prog f (#[.agg #[g0 k, g1 k]] ++ cp) W fun e W' => e = .returned (.bool (p k)) ∧ Below w.heap.size w W') :
    Calls Try.prog 66 #[.slice A n c, .func (.func f) #[] cp] w fun e w' => e = .returned (.int .i64 (ixOf p n)) ∧ Below w.heap.size w w' := by
  by_cases h0 : 0 < n
  · obtain ⟨b, off, hA, hb, hc⟩ := hR h0
    refine ixB_any (fun W => Below w.heap.size w W) A b off n c f cp g0 g1 p w hn (fun _ => hA) he (fun W hW k hk => ?_) hf (Below.refl _ _)
    have hcell : ∀ o, W.cell? ⟨b, o, none⟩ = w.cell? ⟨b, o, none⟩ := fun o => hW.cell (p := ⟨b, o, none⟩) hb
    simp only [hcell]
    exact ⟨by simpa using hc k hk 0 _ rfl, by simpa using hc k hk 1 _ rfl⟩
  · exact ixB_any (fun W => Below w.heap.size w W) A 0 0 n c f cp g0 g1 p w hn (fun h => absurd h h0) he (fun W hW k hk => by omega) hf (Below.refl _ _)

def blobC (T : Nat → ByteArray) (M : Nat → Int) : Nat → List Value := fun k => [.string (T k), .int .i64 (M k)]
def hitB (T : Nat → ByteArray) (M : Nat → Int) (x : ByteArray) : Nat → Bool := fun k => decide (0 < M k) && ((T k).toList == x.toList)
set_option maxHeartbeats 400000 in
theorem find1_any (t x : ByteArray) (m : Int) (b : Nat) (w : World) (hb : b < w.heap.size) (hc : w.cell? ⟨b, 0, none⟩ = some (.string x)) :
    Calls Try.prog 82 #[.agg #[.string t, .int .i64 m], .pointer (some ⟨b, 0, none⟩)] w fun e w' => e = .returned (.bool (decide (0 < m) && (t.toList == x.toList))) ∧ Below w.heap.size w w' := by
  by_cases hm : 0 < m
  · go_enter Try.func82, Try.ntmps82
    go_wp2_with fail
    go_ret
    exact ⟨ret_bool (by simp [hm]), (Below.refl _ _).alloc (Nat.le_refl _) _⟩
  · have hd : decide (0 < m) = false := by simpa using hm
    go_enter Try.func82, Try.ntmps82
    go_wp2_with fail
    go_ret
    exact ⟨ret_bool (by simp), (Below.refl _ _).alloc (Nat.le_refl _) _⟩
theorem find1_enters : Enters Try.prog 82 := fun _ _ => by kernel_rfl
set_option maxHeartbeats 400000 in
theorem find_any (A : Option Addr) (n c : Nat) (T : Nat → ByteArray) (M : Nat → Int) (x : ByteArray) (w : World) (hn : n ≤ 9223372036854775807) (hR : Rd w 2 (blobC T M) A n) :
    Calls Try.prog 65 #[.slice A n c, .string x] w fun e w' => e = .returned (.int .i64 (ixOf (hitB T M x) n)) ∧ Below w.heap.size w w' := by
  have H : ∀ (o : Obj), (w.alloc o).cell? ⟨w.heap.size, 0, none⟩ = some (.string x) → Calls Try.prog 66 #[.slice A n c, .func (.func 82) #[] #[.pointer (some ⟨w.heap.size, 0, none⟩)]] (w.alloc o) fun e w' => e = .returned (.int .i64 (ixOf (hitB T M x) n)) ∧ Below (w.alloc o).heap.size (w.alloc o) w' := fun o ho =>
    ixB_rd A n c 82 #[.pointer (some ⟨w.heap.size, 0, none⟩)] (fun k => .string (T k)) (fun k => .int .i64 (M k)) (hitB T M x) (w.alloc o) hn (hR.alloc o) find1_enters
      fun W hW k _ => (find1_any (T k) x (M k) w.heap.size W (by have := hW.size; simp at this; omega) ((hW.cell (p := ⟨_, _, none⟩) (by simp)).trans ho)).mono fun e W' ⟨he, hb⟩ => ⟨he, hW.trans (hb.mono hW.size)⟩
  have H := Lib.hid H
  clear hR
  go_enter Try.func65, Try.ntmps65
  go_wp2_with fail
  refine (H.out _ (by simp)).mono ?_
  rintro e w1 ⟨rfl, hb⟩
  go_wp2_with fail
  go_ret
  exact ⟨rfl, ((Below.refl _ _).alloc (Nat.le_refl _) _).trans (hb.mono (by simp))⟩

def badB (t : ByteArray) (m : Int) : Bool := decide (64 < t.size) || decide (m < 0) || decide (1000 < m) || (m == 0 && !t.toList.isEmpty)
def dupB (T : Nat → ByteArray) (M : Nat → Int) (k : Nat) : Bool := decide (0 < M k) && decide (0 ≤ ixOf (hitB T M (T k)) k)
def OkS (T : Nat → ByteArray) (M : Nat → Int) (n : Nat) : Prop := n ≤ 60 ∧ ∀ k, k < n → badB (T k) (M k) = false ∧ dupB T M k = false
def ChkPost (Ok : Prop) (w : World) (e : Ending) (w' : World) : Prop := ∃ x : Int, e = .returned (.int .i64 x) ∧ (x = 0 ↔ Ok) ∧ Below w.heap.size w w'
set_option maxRecDepth 100000 in
set_option maxHeartbeats 1600000 in
theorem check_any (A : Option Addr) (n c : Nat) (T : Nat → ByteArray) (M : Nat → Int) (w : World) (hn : n ≤ c) (hc : c ≤ 9223372036854775807) (hR : Rd w 2 (blobC T M) A n) :
    Calls Try.prog 33 #[.slice A n c] w (ChkPost (OkS T M n) w) := by
  have HR := Lib.hid hR
  clear hR
  by_cases h60 : 60 < n
  · go_enter Try.func33, Try.ntmps33
    go_wp2_with fail
    go_ret
    exact ⟨2, rfl, ⟨fun h => by omega, fun h => by have := h.1; omega⟩, Below.refl _ _⟩
  · have h60' : n ≤ 60 := by omega
    clear h60
    go_enter Try.func33, Try.ntmps33
    go_wp2_with fail
    go_loopw [2, 3, 4, 10, 15, 40] (fun _ _ _ i _ _ wr => ∃ k : Nat, k ≤ n ∧ i = .int .i64 k ∧ (∀ j, j < k → badB (T j) (M j) = false ∧ dupB T M j = false) ∧ Below w.heap.size w wr) (fun _ _ _ i _ _ _ => n - (intOf i).toNat)
    case atStart => exact ⟨0, Nat.zero_le _, rfl, fun j hj => by omega, Below.refl _ _⟩
    case round =>
      obtain ⟨k, hk, rfl, hlow, hB⟩ := hrel
      have HL := Lib.hid hlow
      clear hlow
      by_cases hlt : k < n
      · obtain ⟨b, off, rfl, hb, hcell⟩ := HR.out (by omega)
        have c0 : wr.cell? ⟨b, off + k * 2, none⟩ = some (.string (T k)) := (hB.cell (p := ⟨b, _, none⟩) hb).trans (hcell k hlt 0 _ rfl)
        have c1 : wr.cell? ⟨b, off + k * 2 + 1, none⟩ = some (.int .i64 (M k)) := (hB.cell (p := ⟨b, _, none⟩) hb).trans (hcell k hlt 1 _ rfl)
        obtain ⟨t, ht⟩ : ∃ t, T k = t := ⟨_, rfl⟩
        obtain ⟨m, hm⟩ : ∃ m, M k = m := ⟨_, rfl⟩
        rw [ht] at c0
        rw [hm] at c1
        have HT := Lib.hid ht
        have HM := Lib.hid hm
        clear ht hm hcell
        have hBs := hB.size
        by_cases q1 : 64 < t.size
        · go_wp2_with fail
          go_ret
          exact ⟨1, rfl, ⟨fun h => by omega, fun h => by
            have h1 := (h.2 k hlt).1
            rw [HT.out, HM.out] at h1
            simp [badB, q1] at h1⟩, hB.alloc (by have := hB.size; omega) _⟩
        by_cases q2 : m < 0
        · go_wp2_with fail
          go_ret
          exact ⟨1, rfl, ⟨fun h => by omega, fun h => by
            have h1 := (h.2 k hlt).1
            rw [HT.out, HM.out] at h1
            simp [badB, q2] at h1⟩, hB.alloc (by have := hB.size; omega) _⟩
        by_cases q3 : 1000 < m
        · go_wp2_with fail
          go_ret
          exact ⟨1, rfl, ⟨fun h => by omega, fun h => by
            have h1 := (h.2 k hlt).1
            rw [HT.out, HM.out] at h1
            simp [badB, q3] at h1⟩, hB.alloc (by have := hB.size; omega) _⟩
        have d1 : decide (64 < (t.size : Int)) = false := by simp; omega
        have d2 : decide (m < 0) = false := by simp; omega
        have d3 : decide (1000 < m) = false := by simp; omega
        by_cases q4 : m = 0
        · subst q4
          by_cases q5 : t.toList.isEmpty = true
          · have q6 : t.toList = [] := by simpa using q5
            have d4 : decide ((0 : Int) < 0) = false := by decide
            clear q1 q2 q3 d2 d3
            go_wp2_with fail
            go_quiet (fail)
            go_wp2_with fail
            go_roundw
            case rel =>
              refine ⟨k + 1, by omega, by go_num, fun j hj => ?_, ?_⟩
              · by_cases e : j = k
                · subst e
                  rw [HT.out, HM.out]
                  refine ⟨by simp [badB, q6] at d1 ⊢; omega, by simp [dupB, HM.out]⟩
                · exact HL.out j (by omega)
              · exact below_drewN (hB.alloc (by omega) _) _
            case measure => simp [intOf]; omega
          · have q6 : t.toList.isEmpty = false := by simpa using q5
            have q7 : ¬ t.toList = [] := by simpa using q5
            clear q5
            go_wp2_with fail
            go_ret
            exact ⟨1, rfl, ⟨fun h => by omega, fun h => by
              have h1 := (h.2 k hlt).1
              rw [HT.out, HM.out] at h1
              simp [badB, q7] at h1⟩, hB.alloc (by omega) _⟩
        · have q5 : 0 < m := by omega
          have q6 : (m == 0) = false := by simpa using q4
          clear q1 q2 q3 q4
          go_wp2_with fail
          have i1 : (0 : Int) ≤ (k : Int) := by omega
          have i2 : (k : Int) ≤ (c : Int) := by omega
          have i3 : (k : Int) ≤ (n : Int) := by omega
          go_region_held3 (fun w' => w'.cell? ⟨wr.heap.size, 0, none⟩ = some (.string t) ∧ w'.cell? ⟨wr.heap.size, 1, none⟩ = some (.int .i64 m)) (first | exact ⟨k0, k1⟩ | go_keep)
            (first | (go_at_call 65; refine (find_any _ k c T M t _ (by omega) ?_).mono ?_; exact ((HR.out.take hk).below ((hB.alloc hBs _).drew)); rintro e w1 ⟨rfl, hb1⟩; have k0 : w1.cell? ⟨wr.heap.size, 0, none⟩ = some (.string t) := (hb1.cell (p := ⟨_, _, none⟩) (by simp)).trans (by simp); have k1 : w1.cell? ⟨wr.heap.size, 1, none⟩ = some (.int .i64 m) := (hb1.cell (p := ⟨_, _, none⟩) (by simp)).trans (by simp)))
          have hB1 : Below w.heap.size w w1 := ((hB.alloc hBs _).drew).trans (hb1.mono (by show w.heap.size ≤ (wr.alloc _).heap.size; simp; omega))
          by_cases hd : 0 ≤ ixOf (hitB T M t) k
          · go_wp2_with fail
            go_ret
            exact ⟨5, rfl, ⟨fun h => by omega, fun h => by
              have h1 := (h.2 k hlt).2
              unfold dupB at h1
              rw [HT.out, HM.out] at h1
              simp [q5, hd] at h1⟩, hB1⟩
          · have hd' : decide (0 ≤ ixOf (hitB T M t) k) = false := by simpa using hd
            go_wp2_with fail
            go_roundw
            case rel =>
              refine ⟨k + 1, by omega, by go_num, fun j hj => ?_, hB1⟩
              by_cases e : j = k
              · subst e
                unfold dupB
                rw [HT.out, HM.out, hd']
                refine ⟨?_, by simp⟩
                simp [badB] at d1 d2 d3 ⊢
                omega
              · exact HL.out j (by omega)
            case measure => simp [intOf]; omega
      · go_wp2_with fail
        go_ret
        exact ⟨0, rfl, ⟨fun _ => ⟨h60', fun j hj => HL.out j (by omega)⟩, fun _ => rfl⟩, hB⟩
end Go.Proofs.Ytelpommocgmdjaa
