/- link.begin, and finding a row. -/
import Derived.Test.YtcjkibjaajbfmaaLinkC
namespace Go.Proofs.Ytcjkibjaajbfmaa
open Go.RowKit
set_option linter.unusedVariables false
set_option maxHeartbeats 400000 in
theorem ixRow_any (I : World → Prop) (A : Option Addr) (b off n c f : Nat) (cp : Array Value) (g0 g1 g2 : Nat → Value) (p : Nat → Bool) (w : World) (hn : n ≤ 9223372036854775807)
    (hA : 0 < n → A = some ⟨b, off, none⟩) (he : Enters Try.prog f)
    (hc : ∀ W, I W → ∀ k, k < n → W.cell? ⟨b, off + k * 3, none⟩ = some (g0 k) ∧ W.cell? ⟨b, off + k * 3 + 1, none⟩ = some (g1 k) ∧ W.cell? ⟨b, off + k * 3 + 2, none⟩ = some (g2 k))
    (hf : ∀ W, I W → ∀ k, k < n → Calls Try.prog f (#[.agg #[g0 k, g1 k, g2 k]] ++ cp) W fun e W' => e = .returned (.bool (p k)) ∧ I W') (hw : I w) :
    Calls Try.prog 34 #[.slice A n c, .func (.func f) #[] cp] w fun e w' => e = .returned (.int .i64 (ixOf p n)) ∧ I w' := by
  have HC := Lib.hid hc
  have HF := Lib.hid hf
  have HA := Lib.hid hA
  have HE := Lib.hid he
  clear hc hf hA he
  go_enter Try.func34, Try.ntmps34
  go_wp2_with fail
  go_loopw [5, 4, 8] (fun _ _ i wr => ∃ k : Nat, k ≤ n ∧ i = .int .i64 k ∧ (∀ j, j < k → p j = false) ∧ I wr) (fun _ _ i _ => n - (intOf i).toNat)
  case atStart => exact ⟨0, Nat.zero_le _, rfl, fun j hj => by omega, hw⟩
  case round =>
    obtain ⟨k, hk, rfl, hlow, hI⟩ := hrel
    have HL := Lib.hid hlow
    clear hlow
    by_cases hlt : k < n
    · obtain rfl := HA.out (by omega)
      obtain ⟨hc0, hc1, hc2⟩ := HC.out wr hI k hlt
      have hen := HE.out (#[.agg #[g0 k, g1 k, g2 k]] ++ cp) wr
      go_wp2_with fail
      refine (HF.out wr hI k hlt).mono ?_
      rintro e W' ⟨rfl, hI'⟩
      by_cases hp : p k = true
      · clear hc0 hc1 hc2 hen
        go_wp2_with fail
        go_ret
        exact ⟨ret_int (ixOf_found hlt hp HL.out).symm, hI'⟩
      · have hp' : p k = false := by simpa using hp
        clear hc0 hc1 hc2 hen hp
        go_wp2_with fail
        go_roundw
        case rel =>
          refine ⟨k + 1, by omega, by go_num, fun j hj => ?_, hI'⟩
          by_cases e : j = k
          · rw [e]; exact hp'
          · exact HL.out j (by omega)
        case measure => simp [intOf]; omega
    · go_wp2_with fail
      go_ret
      exact ⟨ret_int (ixOf_none fun j hj => HL.out j (by omega)).symm, hI⟩

theorem ixRow_rd (A : Option Addr) (n c f : Nat) (cp : Array Value) (g0 g1 g2 : Nat → Value) (p : Nat → Bool) (w : World) (hn : n ≤ 9223372036854775807)
    (hR : Rd w 3 (fun k => [g0 k, g1 k, g2 k]) A n) (he : Enters Try.prog f)
    (hf : ∀ W, Below w.heap.size w W → ∀ k, k < n → Calls Try.prog f (#[.agg #[g0 k, g1 k, g2 k]] ++ cp) W fun e W' => e = .returned (.bool (p k)) ∧ Below w.heap.size w W') :
    Calls Try.prog 34 #[.slice A n c, .func (.func f) #[] cp] w fun e w' => e = .returned (.int .i64 (ixOf p n)) ∧ Below w.heap.size w w' := by
  by_cases h0 : 0 < n
  · obtain ⟨b, off, hA, hb, hc⟩ := hR h0
    refine ixRow_any (fun W => Below w.heap.size w W) A b off n c f cp g0 g1 g2 p w hn (fun _ => hA) he (fun W hW k hk => ?_) hf (Below.refl _ _)
    have hcell : ∀ o, W.cell? ⟨b, o, none⟩ = w.cell? ⟨b, o, none⟩ := fun o => hW.cell (p := ⟨b, o, none⟩) hb
    simp only [hcell]
    exact ⟨by simpa using hc k hk 0 _ rfl, by simpa using hc k hk 1 _ rfl, by simpa using hc k hk 2 _ rfl⟩
  · exact ixRow_any (fun W => Below w.heap.size w W) A 0 0 n c f cp g0 g1 g2 p w hn (fun h => absurd h h0) he (fun W hW k hk => by omega) hf (Below.refl _ _)

def refB (R : Nat → LR) (ref : Int) : Nat → Bool := fun k => (R k).ref == ref
/-- a closure that compares a row's reference with a captured one -/
def EqRow (fn : Nat) : Prop := ∀ (a : Int) (A B : Option Addr) (n m c d : Nat) (ref : Int) (b : Nat) (w : World), b < w.heap.size → w.cell? ⟨b, 0, none⟩ = some (.int .i64 ref) →
  Calls Try.prog fn #[.agg #[.int .i64 a, .slice A n c, .slice B m d], .pointer (some ⟨b, 0, none⟩)] w fun e w' => e = .returned (.bool (a == ref)) ∧ Below w.heap.size w w'
theorem ix_row (fn : Nat) (hen : Enters Try.prog fn) (hf : EqRow fn) (A : Option Addr) (n c : Nat) (R : Nat → LR) (vw vl : Nat → Value) (ref : Int) (b : Nat) (w : World) (hn : n ≤ 9223372036854775807) (hR : RdL w A n R vw vl) (hb : b < w.heap.size) (hc : w.cell? ⟨b, 0, none⟩ = some (.int .i64 ref)) :
    Calls Try.prog 34 #[.slice A n c, .func (.func fn) #[] #[.pointer (some ⟨b, 0, none⟩)]] w fun e w' => e = .returned (.int .i64 (ixOf (refB R ref) n)) ∧ Below w.heap.size w w' :=
  ixRow_rd A n c fn #[.pointer (some ⟨b, 0, none⟩)] (fun k => .int .i64 (R k).ref) vw vl (refB R ref) w hn hR.row hen
    fun W hW k hk => by
      obtain ⟨⟨wA, wc, hvw, _⟩, ⟨lA, lc, hvl, _⟩⟩ := hR.each k hk
      rw [hvw, hvl]
      exact (hf (R k).ref wA lA _ _ wc lc ref b W (by have := hW.size; omega) ((hW.cell (p := ⟨_, _, none⟩) hb).trans hc)).mono fun e W' ⟨he, hb'⟩ => ⟨he, hW.trans (hb'.mono hW.size)⟩
theorem begin1_cl : EqRow 74 := fun a A B n m c d ref b w hb hc => by
  go_enter Try.func74, Try.ntmps74
  go_wp2_with fail
  go_ret
  exact ⟨rfl, (Below.refl _ _).alloc (Nat.le_refl _) _⟩
theorem begin1_enters : Enters Try.prog 74 := fun _ _ => by kernel_rfl
def OkIx (R : Nat → LR) (n : Nat) (ref : Int) (i : Nat) : Prop := OkL R n ∧ i < n ∧ (R i).ref = ref
theorem OkL.mono {R : Nat → LR} {n : Nat} (h : OkL R n) : ∀ i j, i < j → j < n → (R i).ref < (R j).ref := by
  intro i j
  induction j with
  | zero => intro h; omega
  | succ j ih =>
    intro hij hj
    have h1 := (h.2 (j + 1) hj).2.2.2.1 (by omega)
    rw [Nat.add_sub_cancel] at h1
    by_cases e : i = j
    · subst e; exact h1
    · have := ih (by omega) (by omega)
      omega
theorem OkIx.uniq {R : Nat → LR} {n i j : Nat} {ref : Int} (h : OkIx R n ref i) (h' : OkIx R n ref j) : i = j := by
  rcases Nat.lt_trichotomy i j with hlt | e | hlt
  · have := h.1.mono i j hlt h'.2.1
    rw [h.2.2, h'.2.2] at this
    omega
  · exact e
  · have := h.1.mono j i hlt h.2.1
    rw [h.2.2, h'.2.2] at this
    omega
theorem OkIx.ix {R : Nat → LR} {n i : Nat} {ref : Int} (h : OkIx R n ref i) : ixOf (refB R ref) n = i := by
  refine ixOf_found h.2.1 (by simp [refB, h.2.2]) (fun j hj => ?_)
  have := h.1.mono j i hj h.2.1
  rw [h.2.2] at this
  simp [refB]
  omega
theorem ix_none {R : Nat → LR} {n : Nat} {ref : Int} (h : OkL R n) (hno : ¬ ∃ i, OkIx R n ref i) : ixOf (refB R ref) n = -1 := by
  refine ixOf_none (fun j hj => ?_)
  rcases hp : refB R ref j with _ | _
  · rfl
  · exact absurd ⟨j, h, hj, by simpa [refB] using hp⟩ hno
def BeginBad (P : Prop) (w : World) (e : Ending) (w' : World) : Prop := ∃ x : Int, x ≠ 0 ∧ (P → x = 4) ∧ e = .returned (.tuple #[.slice none 0 0, .int .i64 0, .int .i64 x]) ∧ Below w.heap.size w w'
def BeginOk (R : Nat → LR) (n i : Nat) (w : World) (e : Ending) (w' : World) : Prop := ∃ A c vw vl, e = .returned (.tuple #[.slice A n c, .int .i64 i, .int .i64 0]) ∧ OwnL w' w.heap.size (.slice A n c) n R vw vl ∧ Below w.heap.size w w'
set_option maxHeartbeats 2000000 in
theorem begin_bad (A : Option Addr) (n c : Nat) (R : Nat → LR) (vw vl : Nat → Value) (ref : Int) (w : World) (hn : n ≤ c) (hc : c ≤ 9223372036854775807) (hR : RdL w A n R vw vl) (hno : ¬ ∃ i, OkIx R n ref i) :
    Calls Try.prog 53 #[.slice A n c, .int .i64 ref] w (BeginBad (OkL R n) w) := by
  have HR := Lib.hid hR
  have HNO := Lib.hid hno
  clear hR hno
  go_enter Try.func53, Try.ntmps53
  go_wp2_with fail
  refine (check_any A n c R vw vl _ hn hc (HR.out.below ((Below.refl _ _).alloc (Nat.le_refl _) _))).mono ?_
  rintro e w1 ⟨x, rfl, hx, hb⟩
  have HB1 := Lib.hid (((Below.refl w.heap.size w).alloc (Nat.le_refl _) (.cells #[.int .i64 ref] 3)).trans (hb.mono (by simp)))
  have c0 : w1.cell? ⟨w.heap.size, 0, none⟩ = some (.int .i64 ref) := (hb.cell (p := ⟨_, _, none⟩) (by simp)).trans (by simp [go_sem])
  have hz : w.heap.size < w1.heap.size := by have := hb.size; simp at this; omega
  have HX := Lib.hid hx
  clear hb hx
  by_cases hx0 : x = 0
  · subst hx0
    have HK := Lib.hid (HX.out.1 rfl)
    have HI := Lib.hid (ix_none HK.out HNO.out)
    go_wp2_with fail
    refine (ix_row _ begin1_enters begin1_cl A n c R vw vl ref w.heap.size _ (by omega) (HR.out.below HB1.out) hz c0).mono ?_
    rintro e w2 ⟨rfl, hb2⟩
    rw [HI.out]
    have HB2 := Lib.hid (HB1.out.trans (hb2.mono HB1.out.size))
    clear hb2 c0
    go_wp2_with fail
    go_ret3
    exact ⟨4, by omega, fun _ => rfl, rfl, HB2.out⟩
  · have e0 : (x != 0) = true := by simpa using hx0
    have HX0 := Lib.hid hx0
    clear hx0
    go_wp2_with fail
    go_ret3
    exact ⟨x, HX0.out, fun h => absurd (HX.out.2 h) HX0.out, rfl, HB1.out⟩
set_option maxHeartbeats 2000000 in
theorem begin_ok (A : Option Addr) (n c : Nat) (R : Nat → LR) (vw vl : Nat → Value) (ref : Int) (i : Nat) (w : World) (hn : n ≤ c) (hc : c ≤ 9223372036854775807) (hR : RdL w A n R vw vl) (hi : OkIx R n ref i) :
    Calls Try.prog 53 #[.slice A n c, .int .i64 ref] w (BeginOk R n i w) := by
  have HR := Lib.hid hR
  have HOK := Lib.hid hi
  have h100 := hi.1.1
  clear hR hi
  go_enter Try.func53, Try.ntmps53
  go_wp2_with fail
  refine (check_any A n c R vw vl _ hn hc (HR.out.below ((Below.refl _ _).alloc (Nat.le_refl _) _))).mono ?_
  rintro e w1 ⟨x, rfl, hx, hb⟩
  have HB1 := Lib.hid (((Below.refl w.heap.size w).alloc (Nat.le_refl _) (.cells #[.int .i64 ref] 3)).trans (hb.mono (by simp)))
  have c0 : w1.cell? ⟨w.heap.size, 0, none⟩ = some (.int .i64 ref) := (hb.cell (p := ⟨_, _, none⟩) (by simp)).trans (by simp [go_sem])
  have hz : w.heap.size < w1.heap.size := by have := hb.size; simp at this; omega
  obtain rfl : x = 0 := hx.2 HOK.out.1
  have HI := Lib.hid HOK.out.ix
  clear hb hx
  go_wp2_with fail
  refine (ix_row _ begin1_enters begin1_cl A n c R vw vl ref w.heap.size _ (by omega) (HR.out.below HB1.out) hz c0).mono ?_
  rintro e w2 ⟨rfl, hb2⟩
  rw [HI.out]
  have HB2 := Lib.hid (HB1.out.trans (hb2.mono HB1.out.size))
  have i0 : ¬ ((i : Int) < 0) := by omega
  clear hb2 c0
  go_wp2_with fail
  refine (copy_any A n c R vw vl _ hn hc h100 (HR.out.below HB2.out) (fun k hk => ⟨(HOK.out.1.2 k hk).2.1, (HOK.out.1.2 k hk).2.2.1⟩)).mono ?_
  rintro e w3 ⟨v, vw', vl', rfl, hO, hb3⟩
  obtain ⟨A', c', rfl, _, _, _⟩ := own_any hO.row
  have HO := Lib.hid (hO.mono HB2.out.size)
  have HB3 := Lib.hid (HB2.out.trans (hb3.mono HB2.out.size))
  clear hO hb3
  go_wp2_with fail
  go_ret3
  exact ⟨A', c', vw', vl', rfl, HO.out, HB3.out⟩
end Go.Proofs.Ytcjkibjaajbfmaa
