/- Contracts of package ward: find, Check. -/
import Derived.Test.YtcedogmhmpcfmaaVoc
import Derived.Deep.QuietTactic
import Derived.BigQuiet
import Derived.Deep.RegionHeld3
namespace Go.Proofs.Ytcedogmhmpcfmaa.Wa
open Go.RowKit
set_option linter.unusedVariables false
set_option maxHeartbeats 400000 in
theorem ixC_any (I : World → Prop) (A : Option Addr) (b off n c f : Nat) (cp : Array Value) (g0 g1 g2 : Nat → Value) (p : Nat → Bool) (w : World) (hn : n ≤ 9223372036854775807)
    (hA : 0 < n → A = some ⟨b, off, none⟩) (he : Enters Try.prog f)
    (hc : ∀ W, I W → ∀ k, k < n → W.cell? ⟨b, off + k * 3, none⟩ = some (g0 k) ∧ W.cell? ⟨b, off + k * 3 + 1, none⟩ = some (g1 k) ∧ W.cell? ⟨b, off + k * 3 + 2, none⟩ = some (g2 k))
    (hf : ∀ W, I W → ∀ k, k < n → Calls Try.prog f (#[.agg #[g0 k, g1 k, g2 k]] ++ cp) W fun e W' => e = .returned (.bool (p k)) ∧ I W') (hw : I w) :
    Calls Try.prog 67 #[.slice A n c, .func (.func f) #[] cp] w fun e w' => e = .returned (.int .i64 (ixOf p n)) ∧ I w' := by
  have HC := Lib.hid hc
  have HF := Lib.hid hf
  have HA := Lib.hid hA
  have HE := Lib.hid he
  clear hc hf hA he
  go_enter Try.func67, Try.ntmps67
  go_wp2_with fail
  go_loopw [5, 4, 8] (fun _ _ i wr => ∃ k : Nat, k ≤ n ∧ i = .int .i64 k ∧ (∀ j, j < k → p j = false) ∧ I wr) (fun _ _ i _ => n - (intOf i).toNat)
  case atStart => exact ⟨0, Nat.zero_le _, rfl, fun j hj => by omega, hw⟩
  case round =>
    obtain ⟨k, hk, rfl, hlow, hI⟩ := hrel
    have HL := Lib.hid hlow
    clear hlow
    by_cases hlt : k < n
    · obtain rfl := HA.out (by omega)
      obtain ⟨hc0, hc1, hc2⟩ := HC.out wr hI k hlt
      have hen := HE.out (#[.agg #[g0 k, g1 k, g2 k]] ++ cp) wr
      go_wp2_with fail
      refine (HF.out wr hI k hlt).mono ?_
      rintro e W' ⟨rfl, hI'⟩
      by_cases hp : p k = true
      · clear hc0 hc1 hc2 hen
        go_wp2_with fail
        go_ret
        exact ⟨ret_int (ixOf_found hlt hp HL.out).symm, hI'⟩
      · have hp' : p k = false := by simpa using hp
        clear hc0 hc1 hc2 hen hp
        go_wp2_with fail
        go_roundw
        case rel =>
          refine ⟨k + 1, by omega, by go_num, fun j hj => ?_, hI'⟩
          by_cases e : j = k
          · rw [e]; exact hp'
          · exact HL.out j (by omega)
        case measure => simp [intOf]; omega
    · go_wp2_with fail
      go_ret
      exact ⟨ret_int (ixOf_none fun j hj => HL.out j (by omega)).symm, hI⟩

theorem ixC_rd (A : Option Addr) (n c f : Nat) (cp : Array Value) (g0 g1 g2 : Nat → Value) (p : Nat → Bool) (w : World) (hn : n ≤ 9223372036854775807)
    (hR : Rd w 3 (fun k => [g0 k, g1 k, g2 k]) A n) (he : Enters Try.prog f)
    (hf : ∀ W, Below w.heap.size w W → ∀ k, k < n → Calls Try.prog f (#[.agg #[g0 k, g1 k, g2 k]] ++ cp) W fun e W' => e = .returned (.bool (p k)) ∧ Below w.heap.size w W') :
    Calls Try.prog 67 #[.slice A n c, .func (.func f) #[] cp] w fun e w' => e = .returned (.int .i64 (ixOf p n)) ∧ Below w.heap.size w w' := by
  by_cases h0 : 0 < n
  · obtain ⟨b, off, hA, hb, hc⟩ := hR h0
    refine ixC_any (fun W => Below w.heap.size w W) A b off n c f cp g0 g1 g2 p w hn (fun _ => hA) he (fun W hW k hk => ?_) hf (Below.refl _ _)
    have hcell : ∀ o, W.cell? ⟨b, o, none⟩ = w.cell? ⟨b, o, none⟩ := fun o => hW.cell (p := ⟨b, o, none⟩) hb
    simp only [hcell]
    exact ⟨by simpa using hc k hk 0 _ rfl, by simpa using hc k hk 1 _ rfl, by simpa using hc k hk 2 _ rfl⟩
  · exact ixC_any (fun W => Below w.heap.size w W) A 0 0 n c f cp g0 g1 g2 p w hn (fun h => absurd h h0) he (fun W hW k hk => by omega) hf (Below.refl _ _)

structure Ch where
  id : Int
  when : Int
  lives : Bool
def chC (R : Nat → Ch) : Nat → List Value := fun k => [.int .i64 (R k).id, .int .i64 (R k).when, .bool (R k).lives]
theorem chC_len (R : Nat → Ch) : ∀ k, (chC R k).length = 3 := fun _ => rfl
theorem chC_one (R : Nat → Ch) : ∀ k u, u ∈ chC R k → u.oneCell' = true := fun k u h => by
  simp [chC] at h
  rcases h with rfl | rfl | rfl <;> rfl
def tmC (T : Nat → Int) : Nat → List Value := fun k => [.int .i64 (T k)]
theorem tmC_len (T : Nat → Int) : ∀ k, (tmC T k).length = 1 := fun _ => rfl
theorem tmC_one (T : Nat → Int) : ∀ k u, u ∈ tmC T k → u.oneCell' = true := fun k u h => by
  simp [tmC] at h
  subst h; rfl
def idB (R : Nat → Ch) (id : Int) : Nat → Bool := fun k => (R k).id == id
set_option maxHeartbeats 400000 in
theorem find1_any (r : Ch) (id : Int) (b : Nat) (w : World) (hb : b < w.heap.size) (hc : w.cell? ⟨b, 0, none⟩ = some (.int .i64 id)) :
    Calls Try.prog 68 #[.agg #[.int .i64 r.id, .int .i64 r.when, .bool r.lives], .pointer (some ⟨b, 0, none⟩)] w fun e w' => e = .returned (.bool (r.id == id)) ∧ Below w.heap.size w w' := by
  go_enter Try.func68, Try.ntmps68
  go_wp2_with fail
  go_ret
  exact ⟨rfl, (Below.refl _ _).alloc (Nat.le_refl _) _⟩
theorem find1_enters : Enters Try.prog 68 := fun _ _ => by kernel_rfl
set_option maxHeartbeats 400000 in
theorem find_any (A : Option Addr) (n c : Nat) (R : Nat → Ch) (id : Int) (w : World) (hn : n ≤ 9223372036854775807) (hR : Rd w 3 (chC R) A n) :
    Calls Try.prog 46 #[.slice A n c, .int .i64 id] w fun e w' => e = .returned (.int .i64 (ixOf (idB R id) n)) ∧ Below w.heap.size w w' := by
  have H : ∀ (o : Obj), (w.alloc o).cell? ⟨w.heap.size, 0, none⟩ = some (.int .i64 id) → Calls Try.prog 67 #[.slice A n c, .func (.func 68) #[] #[.pointer (some ⟨w.heap.size, 0, none⟩)]] (w.alloc o) fun e w' => e = .returned (.int .i64 (ixOf (idB R id) n)) ∧ Below (w.alloc o).heap.size (w.alloc o) w' := fun o ho =>
    ixC_rd A n c 68 #[.pointer (some ⟨w.heap.size, 0, none⟩)] _ _ _ (idB R id) (w.alloc o) hn (hR.alloc o) find1_enters
      fun W hW k _ => (find1_any (R k) id w.heap.size W (by have := hW.size; simp at this; omega) ((hW.cell (p := ⟨_, _, none⟩) (by simp)).trans ho)).mono fun e W' ⟨he, hb⟩ => ⟨he, hW.trans (hb.mono hW.size)⟩
  have H := Lib.hid H
  clear hR
  go_enter Try.func46, Try.ntmps46
  go_wp2_with fail
  refine (H.out _ (by simp)).mono ?_
  rintro e w1 ⟨rfl, hb⟩
  go_wp2_with fail
  go_ret
  exact ⟨rfl, ((Below.refl _ _).alloc (Nat.le_refl _) _).trans (hb.mono (by simp))⟩
structure Wd where
  how : Int
  most : Int
  window : Int
  R : Nat → Ch
  n : Nat
  T : Nat → Int
  m : Nat
def FineC (R : Nat → Ch) (k : Nat) : Prop := 1 ≤ (R k).when ∧ (R k).when ≤ 3 ∧ ∀ j, j < k → (R j).id ≠ (R k).id
def lastT (T : Nat → Int) (k : Nat) : Int := if k = 0 then 0 else T (k - 1)
def FineT (T : Nat → Int) (k : Nat) : Prop := lastT T k ≤ T k ∧ T k ≤ 1099511627776
def HeadOk (W : Wd) : Prop := 1 ≤ W.how ∧ W.how ≤ 3 ∧ 0 ≤ W.most ∧ W.most ≤ 50 ∧ 1 ≤ W.window ∧ W.window ≤ 1099511627776
def OkW (W : Wd) : Prop := HeadOk W ∧ W.n ≤ 20 ∧ W.m ≤ 50 ∧ (∀ k, k < W.n → FineC W.R k) ∧ ∀ k, k < W.m → FineT W.T k
/-- the supervisor as an argument -/
def argW (W : Wd) (A : Option Addr) (c : Nat) (B : Option Addr) (d : Nat) : Value := .agg #[.int .i64 W.how, .int .i64 W.most, .int .i64 W.window, .slice A W.n c, .slice B W.m d]
/-- the cells of a local supervisor -/
def CellsW (w : World) (b : Nat) (how most window : Int) (A : Option Addr) (n c : Nat) (B : Option Addr) (m d : Nat) : Prop :=
  w.cell? ⟨b, 0, none⟩ = some (.int .i64 how) ∧ w.cell? ⟨b, 1, none⟩ = some (.int .i64 most) ∧ w.cell? ⟨b, 2, none⟩ = some (.int .i64 window) ∧ w.cell? ⟨b, 3, none⟩ = some (.slice A n c) ∧ w.cell? ⟨b, 4, none⟩ = some (.slice B m d)
theorem CellsW.of_below {w w' : World} {b : Nat} {how most window : Int} {A : Option Addr} {n c : Nat} {B : Option Addr} {m d : Nat} (h : CellsW w b how most window A n c B m d) (hb : b < w.heap.size) (hB : Below w.heap.size w w') : CellsW w' b how most window A n c B m d := by
  obtain ⟨h0, h1, h2, h3, h4⟩ := h
  exact ⟨(hB.cell (p := ⟨_, _, none⟩) hb).trans h0, (hB.cell (p := ⟨_, _, none⟩) hb).trans h1, (hB.cell (p := ⟨_, _, none⟩) hb).trans h2, (hB.cell (p := ⟨_, _, none⟩) hb).trans h3, (hB.cell (p := ⟨_, _, none⟩) hb).trans h4⟩
def ChkPost (Ok : Prop) (w : World) (e : Ending) (w' : World) : Prop := ∃ x : Int, e = .returned (.int .i64 x) ∧ (x = 0 ↔ Ok) ∧ Below w.heap.size w w'
set_option maxRecDepth 100000 in
set_option maxHeartbeats 2000000 in
theorem check_any (W : Wd) (A B : Option Addr) (c d : Nat) (w : World) (hn : W.n ≤ c) (hc : c ≤ 9223372036854775807) (hm : W.m ≤ d) (hd : d ≤ 9223372036854775807) (hR : Rd w 3 (chC W.R) A W.n) (hT : Rd w 1 (tmC W.T) B W.m) :
    Calls Try.prog 45 #[.agg #[.int .i64 W.how, .int .i64 W.most, .int .i64 W.window, .slice A W.n c, .slice B W.m d]] w (ChkPost (OkW W) w) := by
  obtain ⟨how, most, window, R, n, T, m⟩ := W
  dsimp only at *
  have HR := Lib.hid hR
  have HT := Lib.hid hT
  clear hR hT
  by_cases q0 : how < 1
  · have e0 : decide (how < 1) = true := by simpa using q0
    go_enter Try.func45, Try.ntmps45
    go_wp2_with fail
    go_ret
    exact ⟨1, rfl, ⟨fun h => by omega, fun h => by have := h.1; unfold HeadOk at this; dsimp only at this; omega⟩, (Below.refl _ _).alloc (Nat.le_refl _) _⟩
  have e0 : decide (how < 1) = false := by simpa using q0
  by_cases q1 : 3 < how
  · have e1 : decide (3 < how) = true := by simpa using q1
    go_enter Try.func45, Try.ntmps45
    go_wp2_with fail
    go_ret
    exact ⟨1, rfl, ⟨fun h => by omega, fun h => by have := h.1; unfold HeadOk at this; dsimp only at this; omega⟩, (Below.refl _ _).alloc (Nat.le_refl _) _⟩
  have e1 : decide (3 < how) = false := by simpa using q1
  by_cases q2 : most < 0
  · have e2 : decide (most < 0) = true := by simpa using q2
    go_enter Try.func45, Try.ntmps45
    go_wp2_with fail
    go_ret
    exact ⟨1, rfl, ⟨fun h => by omega, fun h => by have := h.1; unfold HeadOk at this; dsimp only at this; omega⟩, (Below.refl _ _).alloc (Nat.le_refl _) _⟩
  have e2 : decide (most < 0) = false := by simpa using q2
  by_cases q3 : 50 < most
  · have e3 : decide (50 < most) = true := by simpa using q3
    go_enter Try.func45, Try.ntmps45
    go_wp2_with fail
    go_ret
    exact ⟨1, rfl, ⟨fun h => by omega, fun h => by have := h.1; unfold HeadOk at this; dsimp only at this; omega⟩, (Below.refl _ _).alloc (Nat.le_refl _) _⟩
  have e3 : decide (50 < most) = false := by simpa using q3
  by_cases q4 : window < 1
  · have e4 : decide (window < 1) = true := by simpa using q4
    go_enter Try.func45, Try.ntmps45
    go_wp2_with fail
    go_ret
    exact ⟨1, rfl, ⟨fun h => by omega, fun h => by have := h.1; unfold HeadOk at this; dsimp only at this; omega⟩, (Below.refl _ _).alloc (Nat.le_refl _) _⟩
  have e4 : decide (window < 1) = false := by simpa using q4
  by_cases q5 : 1099511627776 < window
  · have e5 : decide (1099511627776 < window) = true := by simpa using q5
    go_enter Try.func45, Try.ntmps45
    go_wp2_with fail
    go_ret
    exact ⟨1, rfl, ⟨fun h => by omega, fun h => by have := h.1; unfold HeadOk at this; dsimp only at this; omega⟩, (Below.refl _ _).alloc (Nat.le_refl _) _⟩
  have e5 : decide (1099511627776 < window) = false := by simpa using q5
  have HH : Hid (HeadOk ⟨how, most, window, R, n, T, m⟩) := ⟨by dsimp only; omega, by dsimp only; omega, by dsimp only; omega, by dsimp only; omega, by dsimp only; omega, by dsimp only; omega⟩
  clear q0 q1 q2 q3 q4 q5
  by_cases h20 : 20 < n
  · have e6 : decide ((20 : Int) < (n : Int)) = true := by simp; omega
    go_enter Try.func45, Try.ntmps45
    go_wp2_with fail
    go_ret
    exact ⟨2, rfl, ⟨fun h => by omega, fun h => by have := h.2.1; dsimp only at this; omega⟩, (Below.refl _ _).alloc (Nat.le_refl _) _⟩
  have e6 : decide ((20 : Int) < (n : Int)) = false := by simp; omega
  by_cases h50 : 50 < m
  · have e7 : decide ((50 : Int) < (m : Int)) = true := by simp; omega
    go_enter Try.func45, Try.ntmps45
    go_wp2_with fail
    go_ret
    exact ⟨2, rfl, ⟨fun h => by omega, fun h => by have := h.2.2.1; dsimp only at this; omega⟩, (Below.refl _ _).alloc (Nat.le_refl _) _⟩
  have e7 : decide ((50 : Int) < (m : Int)) = false := by simp; omega
  go_enter Try.func45, Try.ntmps45
  go_wp2_with fail
  go_loopw [2, 3, 4, 51, 56, 65] (fun _ _ _ i _ _ wr => ∃ k : Nat, k ≤ n ∧ i = .int .i64 k ∧ (∀ j, j < k → FineC R j) ∧ w.heap.size < wr.heap.size ∧ CellsW wr w.heap.size how most window A n c B m d ∧ Below w.heap.size w wr) (fun _ _ _ i _ _ _ => n - (intOf i).toNat)
  case atStart => exact ⟨0, Nat.zero_le _, rfl, fun j hj => by omega, by simp, ⟨by simp, by simp, by simp, by simp, by simp⟩, (Below.refl _ _).alloc (Nat.le_refl _) _⟩
  case round =>
    obtain ⟨k, hk, rfl, hlow, hsz, hcw, hB⟩ := hrel
    have HL := Lib.hid hlow
    have HW := Lib.hid hcw
    obtain ⟨w0, w1', w2, w3, w4⟩ := hcw
    clear hlow
    by_cases hlt : k < n
    · obtain ⟨b, off, rfl, hb, hcell⟩ := HR.out (by omega)
      have c0 : wr.cell? ⟨b, off + k * 3, none⟩ = some (.int .i64 (R k).id) := (hB.cell (p := ⟨b, _, none⟩) hb).trans (hcell k hlt 0 _ rfl)
      have c1 : wr.cell? ⟨b, off + k * 3 + 1, none⟩ = some (.int .i64 (R k).when) := (hB.cell (p := ⟨b, _, none⟩) hb).trans (hcell k hlt 1 _ rfl)
      have c2 : wr.cell? ⟨b, off + k * 3 + 2, none⟩ = some (.bool (R k).lives) := (hB.cell (p := ⟨b, _, none⟩) hb).trans (hcell k hlt 2 _ rfl)
      obtain ⟨r, hr⟩ : ∃ r, R k = r := ⟨_, rfl⟩
      rw [hr] at c0 c1 c2
      have HK := Lib.hid hr
      have hBs := hB.size
      clear hr hcell
      obtain ⟨id, when_, lives⟩ := r
      dsimp only at c0 c1 c2
      by_cases q1 : when_ < 1
      · have d1 : decide (when_ < 1) = true := by simpa using q1
        go_wp2_with fail
        go_ret
        exact ⟨1, rfl, ⟨fun h => by omega, fun h => by
          have h1 := (h.2.2.2.1 k hlt).1
          dsimp only at h1
          rw [HK.out] at h1
          dsimp only at h1
          omega⟩, hB.alloc hBs _⟩
      have d1 : decide (when_ < 1) = false := by simpa using q1
      by_cases q2 : 3 < when_
      · have d2 : decide (3 < when_) = true := by simpa using q2
        go_wp2_with fail
        go_ret
        exact ⟨1, rfl, ⟨fun h => by omega, fun h => by
          have h1 := (h.2.2.2.1 k hlt).2.1
          dsimp only at h1
          rw [HK.out] at h1
          dsimp only at h1
          omega⟩, hB.alloc hBs _⟩
      have d2 : decide (3 < when_) = false := by simpa using q2
      go_wp2_with fail
      have i1 : (0 : Int) ≤ (k : Int) := by omega
      have i2 : (k : Int) ≤ (c : Int) := by omega
      have i3 : (k : Int) ≤ (n : Int) := by omega
      have p3 : (wr.alloc (.cells #[.int .i64 id, .int .i64 when_, .bool lives] 43)).cell? ⟨w.heap.size, 3, none⟩ = some (.slice (some ⟨b, off, none⟩) n c) := (World.cell?_alloc_lt _ _ _ (by show w.heap.size < wr.heap.size; omega)).trans w3
      have p0 : (wr.alloc (.cells #[.int .i64 id, .int .i64 when_, .bool lives] 43)).cell? ⟨wr.heap.size, 0, none⟩ = some (.int .i64 id) := by simp
      go_region_held3 (fun w' => w'.cell? ⟨w.heap.size, 3, none⟩ = some (.slice (some ⟨b, off, none⟩) n c) ∧ w'.cell? ⟨wr.heap.size, 0, none⟩ = some (.int .i64 id)) (first | exact ⟨p3, p0⟩ | exact ⟨v3, v0⟩ | go_keep)
        (first | (go_at_call 46; refine (find_any (some ⟨b, off, none⟩) k c R id _ (by omega) ((HR.out.take (by omega)).below ((hB.alloc hBs _).drew))).mono ?_; rintro e w1 ⟨rfl, hb1⟩; have v3 : w1.cell? ⟨w.heap.size, 3, none⟩ = some (.slice (some ⟨b, off, none⟩) n c) := (hb1.cell (p := ⟨_, _, none⟩) (by show w.heap.size < (wr.alloc _).heap.size; simp; omega)).trans p3; have v0 : w1.cell? ⟨wr.heap.size, 0, none⟩ = some (.int .i64 id) := (hb1.cell (p := ⟨_, _, none⟩) (by show wr.heap.size < (wr.alloc _).heap.size; simp)).trans p0))
      have hB1 : Below w.heap.size w w1 := ((hB.alloc hBs _).drew).trans (hb1.mono (by show w.heap.size ≤ (wr.alloc _).heap.size; simp; omega))
      have hz1 : w.heap.size < w1.heap.size := by have := hb1.size; have e : (wr.alloc (.cells #[.int .i64 id, .int .i64 when_, .bool lives] 43)).drew.heap.size = wr.heap.size + 1 := by show (wr.alloc _).heap.size = _; simp
                                                  omega
      have HW1 := Lib.hid (HW.out.of_below (w' := w1) (by omega) ((((Below.refl _ _).alloc (Nat.le_refl _) _).drew).trans (hb1.mono (by show wr.heap.size ≤ (wr.alloc _).heap.size; simp))))
      clear hb1 hB c0 c1 c2 w0 w1' w2 w3 w4 p3 p0 v3 v0
      rcases ixOf_cases (idB R id) k with ⟨he, hno⟩ | ⟨j, he, hj, hp, _⟩
      · have HN := Lib.hid hno
        rw [he]
        clear hno he
        go_wp2_with fail
        go_roundw
        case rel =>
          refine ⟨k + 1, by omega, by go_num, fun j hj => ?_, hz1, HW1.out, hB1⟩
          by_cases e : j = k
          · subst e
            unfold FineC
            rw [HK.out]
            refine ⟨by dsimp only; omega, by dsimp only; omega, fun i hi => ?_⟩
            have := HN.out i hi
            simpa [idB] using this
          · exact HL.out j (by omega)
        case measure => simp [intOf]; omega
      · have HP := Lib.hid hp
        rw [he]
        clear hp he
        go_wp2_with fail
        go_ret
        exact ⟨5, rfl, ⟨fun h => by omega, fun h => by
          have h1 := (h.2.2.2.1 k hlt).2.2 j hj
          dsimp only at h1
          rw [HK.out] at h1
          have h2 := HP.out
          simp [idB] at h2
          exact absurd h2 h1⟩, hB1⟩
    · have HLL := Lib.hid (fun j hj => HL.out j (show j < k by omega))
      obtain rfl : k = n := by omega
      have HB := Lib.hid hB
      go_wp2_with fail
      clear w0 w1' w2 w3 w4
      go_loopw [2, 5, 7, 78] (fun _ l _ i wq => ∃ q : Nat, q ≤ m ∧ i = .int .i64 q ∧ l = .int .i64 (lastT T q) ∧ (∀ j, j < q → FineT T j) ∧ Below w.heap.size w wq) (fun _ _ _ i _ => m - (intOf i).toNat)
      case atStart => exact ⟨0, Nat.zero_le _, rfl, rfl, fun j hj => by omega, HB.out⟩
      case round =>
        obtain ⟨q, hq, rfl, rfl, hlow, hB⟩ := hrel
        have HLT := Lib.hid hlow
        clear hlow
        by_cases hltq : q < m
        · obtain ⟨b, off, rfl, hb, hcell⟩ := HT.out (by omega)
          have c0 : wr.cell? ⟨b, off + q, none⟩ = some (.int .i64 (T q)) := (hB.cell (p := ⟨b, _, none⟩) hb).trans (by simpa using hcell q hltq 0 _ rfl)
          have hls : lastT T (q + 1) = T q := by simp [lastT]
          have HLS := Lib.hid hls
          clear hcell hls
          obtain ⟨t, ht⟩ : ∃ t, T q = t := ⟨_, rfl⟩
          obtain ⟨la, hla⟩ : ∃ t, lastT T q = t := ⟨_, rfl⟩
          rw [ht] at c0
          rw [hla]
          have HTQ := Lib.hid ht
          have HLA := Lib.hid hla
          clear ht hla
          by_cases q1 : t < la
          · have d1 : decide (t < la) = true := by simpa using q1
            go_wp2_with fail
            go_ret
            exact ⟨21, rfl, ⟨fun h => by omega, fun h => by
              have h1 := (h.2.2.2.2 q hltq).1
              dsimp only at h1
              rw [HTQ.out, HLA.out] at h1
              omega⟩, hB⟩
          have d1 : decide (t < la) = false := by simpa using q1
          by_cases q2 : 1099511627776 < t
          · have d2 : decide (1099511627776 < t) = true := by simpa using q2
            go_wp2_with fail
            go_ret
            exact ⟨21, rfl, ⟨fun h => by omega, fun h => by
              have h1 := (h.2.2.2.2 q hltq).2
              dsimp only at h1
              rw [HTQ.out] at h1
              omega⟩, hB⟩
          have d2 : decide (1099511627776 < t) = false := by simpa using q2
          go_wp2_with fail
          go_roundw
          case rel =>
            refine ⟨q + 1, by omega, by go_num, by rw [HLS.out, HTQ.out], fun j hj => ?_, hB⟩
            by_cases e : j = q
            · subst e
              unfold FineT
              rw [HTQ.out, HLA.out]
              omega
            · exact HLT.out j (by omega)
          case measure => simp [intOf]; omega
        · go_wp2_with fail
          go_ret
          exact ⟨0, rfl, ⟨fun _ => ⟨HH.out, by dsimp only; omega, by dsimp only; omega, fun j hj => HLL.out j hj, fun j hj => HLT.out j (by dsimp only at hj; omega)⟩, fun _ => rfl⟩, hB⟩
end Go.Proofs.Ytcedogmhmpcfmaa.Wa
