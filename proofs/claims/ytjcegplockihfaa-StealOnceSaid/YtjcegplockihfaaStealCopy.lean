/- Lines of the call's own; the contract of steal.copyOf. -/
import Derived.Test.YtjcegplockihfaaSteal
namespace Go.Proofs.Ytjcegplockihfaa
open Go.RowKit
set_option linter.unusedVariables false
theorem infoS : (Try.prog.info? 52).map (fun i => (i.zero, i.size, i.bytes)) = some (some (.slice none 0 0), 1, 24) := by kernel_rfl
def vsC (vs : Nat → Value) : Nat → List Value := fun k => [vs k]
theorem vsC_len (vs : Nat → Value) : ∀ k, (vsC vs k).length = 1 := fun _ => rfl
/-- lines of the call's own: the outer row, and each line in a block of its own -/
structure OwnLs (w : World) (base : Nat) (v : Value) (vs : Nat → Value) (n : Nat) (Q : Nat → List Int) : Prop where
  row : w.ownsRow base 52 1 v n (flatC (vsC vs) n)
  each : ∀ i, i < n → OwnI w base (vs i) (Q i)
  apart : ∀ i j, i < n → j < n → i ≠ j → ∀ k, (vs i).ownBlock = some k → (vs j).ownBlock ≠ some k
  outer : ∀ i, i < n → ∀ k, (vs i).ownBlock = some k → v.ownBlock ≠ some k
theorem OwnLs.grown {w w' : World} {base : Nat} {v : Value} {vs : Nat → Value} {n : Nat} {Q : Nat → List Int} {row : Option Nat} (h : OwnLs w base v vs n Q) (hg : w.grownBy w' row) (h1 : ∀ k, v.ownBlock = some k → row ≠ some k) (h2 : ∀ i, i < n → ∀ k, (vs i).ownBlock = some k → row ≠ some k) : OwnLs w' base v vs n Q :=
  ⟨own_grown h.row hg h1, fun i hi => (h.each i hi).grown hg (h2 i hi), h.apart, h.outer⟩
theorem OwnLs.below {w w' : World} {base : Nat} {v : Value} {vs : Nat → Value} {n : Nat} {Q : Nat → List Int} (h : OwnLs w base v vs n Q) (hb : Below w.heap.size w w') : OwnLs w' base v vs n Q :=
  h.grown (grown_below (g := none) hb) (fun k _ e => by cases e) (fun i _ k _ e => by cases e)
theorem OwnLs.mono {w : World} {base base' : Nat} {v : Value} {vs : Nat → Value} {n : Nat} {Q : Nat → List Int} (h : OwnLs w base v vs n Q) (hb : base' ≤ base) : OwnLs w base' v vs n Q :=
  ⟨own_mono h.row hb, fun i hi => (h.each i hi).mono hb, h.apart, h.outer⟩
theorem OwnLs.rd {w : World} {base c : Nat} {A : Option Addr} {vs : Nat → Value} {n : Nat} {Q : Nat → List Int} (h : OwnLs w base (.slice A n c) vs n Q) : RdLs w (fun _ => True) A n Q := fun h0 => by
  obtain ⟨g, cap, hv, hb, hlt, _⟩ := own_form h.row h0
  have hrow := h.row
  rw [hv] at hrow
  injection hv with e1 _ _
  refine ⟨g, 0, e1, hlt, trivial, fun i hi => ?_⟩
  have hi' := h.each i hi
  obtain ⟨qA, qc, hvi, h1, h2, h3⟩ := own_any hi'
  refine ⟨qA, qc, ?_, h1, h2, h3, fun hl => ?_⟩
  · have := own_cellC hrow (vsC_len _) hi (j := 0) (by omega)
    simp only [Nat.mul_one, Nat.add_zero] at this
    rw [Nat.zero_add, this]
    simp [vsC, hvi]
  · rw [hvi] at hi'
    obtain ⟨b, off, hA, hb, hc⟩ := hi'.rd hl
    exact ⟨b, off, hA, hb, trivial, fun j hj => by simpa using hc j hj 0 _ rfl⟩
theorem OwnLs.nil (w : World) (base : Nat) (Q : Nat → List Int) : OwnLs w base (.slice none 0 0) (fun _ => .slice none 0 0) 0 Q := ⟨World.ownsRow_nil _ _ _ _, fun i hi => by omega, fun i j hi => by omega, fun i hi => by omega⟩
/-- one line more -/
theorem OwnLs.snoc {wr w1 w2 : World} {base : Nat} {v v' v1 : Value} {vs : Nat → Value} {n : Nat} {Q : Nat → List Int} {o : Obj} (h : OwnLs wr base v vs n Q) (hbase : base ≤ wr.heap.size) (hb1 : Below wr.heap.size wr w1) (h1 : OwnI w1 wr.heap.size v1 (Q n)) (hg : (w1.alloc o).grownBy w2 v.ownBlock)
    (hat : v'.ownBlock = v.ownBlock ∨ v'.ownBlock = some (w1.alloc o).heap.size) (hown : w2.ownsRow base 52 1 v' (n + 1) (flatC (vsC vs) n ++ [v1])) : OwnLs w2 base v' (fun k => if k = n then v1 else vs k) (n + 1) Q := by
  have hlt : ∀ i, i < n → ∀ k, (vs i).ownBlock = some k → k < wr.heap.size := fun i hi k hk => ((h.each i hi).blk k hk).2
  have hvlt : ∀ k, v.ownBlock = some k → k < wr.heap.size := fun k hk => (h.row.lt k hk).2
  have hs1 := hb1.size
  have g2 : w1.grownBy w2 v.ownBlock := grown_step (World.grownBy_alloc w1 o _) hg (.inl rfl)
  refine ⟨?_, fun i hi => ?_, fun i j hi hj hij k hk => ?_, fun i hi k hk => ?_⟩
  · have e : flatC (vsC vs) n ++ [v1] = flatC (vsC (fun k => if k = n then v1 else vs k)) (n + 1) := by
      rw [flatC]
      congr 1
      · exact flatC_congr fun k hk => by unfold vsC; dsimp only; rw [if_neg (by omega)]
      · simp [vsC]
    rw [← e]
    exact hown
  · by_cases e : i = n
    · subst e
      simp only [if_true]
      exact ((h1.mono hbase).grown g2 (fun k hk e => by have := (h1.blk k hk).1; have := hvlt k e; omega))
    · simp only [e, if_false]
      exact ((h.each i (by omega)).below hb1).grown g2 (fun k hk => h.outer i (by omega) k hk)
  · by_cases e : i = n
    · subst e
      simp only [if_true] at hk
      rw [if_neg (by omega)]
      intro e
      have := (h1.blk k hk).1
      have := hlt j (by omega) k e
      omega
    · simp only [e, if_false] at hk
      by_cases e2 : j = n
      · subst e2
        simp only [if_true]
        intro e
        have := (h1.blk k e).1
        have := hlt i (by omega) k hk
        omega
      · simp only [e2, if_false]
        exact h.apart i j (by omega) (by omega) hij k hk
  · by_cases e : i = n
    · subst e
      simp only [if_true] at hk
      have hk1 := h1.blk k hk
      rcases hat with ha | ha
      · rw [ha]; intro e; have := hvlt k e; omega
      · rw [ha]; intro e; injection e with e; simp at e; omega
    · simp only [e, if_false] at hk
      have hk1 := hlt i (by omega) k hk
      rcases hat with ha | ha
      · rw [ha]; exact h.outer i (by omega) k hk
      · rw [ha]; intro e; injection e with e; simp at e; omega
def CopyS (n : Nat) (Q : Nat → List Int) (w : World) (e : Ending) (w' : World) : Prop := ∃ v vs, e = .returned v ∧ OwnLs w' w.heap.size v vs n Q ∧ Below w.heap.size w w'
theorem one_slice (qA : Option Addr) (a b : Nat) : ∀ u ∈ ([.slice qA a b] : List Value), u.oneCell' = true := by intro u hu; simp at hu; subst hu; rfl
set_option maxRecDepth 100000 in
set_option maxHeartbeats 2000000 in
theorem copyS_any (A : Option Addr) (n c : Nat) (Q : Nat → List Int) (S : Nat → Prop) (w : World) (hn : n ≤ c) (hc : c ≤ 9223372036854775807) (h8 : n ≤ 1000000) (hR : RdLs w S A n Q) (hl : ∀ i, i < n → (Q i).length ≤ 17592186044416) :
    Calls Try.prog 58 #[.slice A n c] w (CopyS n Q w) := by
  obtain ⟨i0, hi, hz0, hz1, hz2⟩ := info_parts infoS
  have HR := Lib.hid hR
  have HL := Lib.hid hl
  clear hR hl
  go_enter Try.func58, Try.ntmps58
  go_wp2_with fail
  go_loopw [3, 5, 8] (fun o _ x wr => ∃ (i : Nat) (v : Value) (vs : Nat → Value), i ≤ n ∧ x = .int .i64 i ∧ v = o ∧ OwnLs wr w.heap.size v vs i Q ∧ Below w.heap.size w wr) (fun _ _ x _ => n - (intOf x).toNat)
  case atStart => exact ⟨0, _, _, Nat.zero_le _, rfl, rfl, OwnLs.nil _ _ _, Below.refl _ _⟩
  case round =>
    obtain ⟨i, v, vs, hin, rfl, rfl, hO, hB⟩ := hrel
    have HO := Lib.hid hO
    have HB := Lib.hid hB
    have hBs := hB.size
    obtain ⟨Ao, co, rfl, hnco, hcmo, _⟩ := own_any hO.row
    by_cases hlt : i < n
    · obtain ⟨b, off, rfl, hb, hSb, hcell⟩ := HR.out (by omega)
      obtain ⟨qA, qc, h1, h2, h3, h4, h5⟩ := hcell i hlt
      have c0 : wr.cell? ⟨b, off + i, none⟩ = some (.slice qA (Q i).length qc) := (hB.cell (p := ⟨b, _, none⟩) hb).trans h1
      have HQ := Lib.hid (h5.below hB).rd
      have H4 := Lib.hid h4
      have hql := HL.out i hlt
      clear hO hB hcell h1 h5 h4
      go_wp2_with fail
      refine (cloneInt qA (Q i).length qc (tmC (lst (Q i))) _ HQ.out (tmC_len _) (tmC_one _) H4.out (by omega)).mono ?_
      rintro e w1 ⟨v1, rfl, hown1, hb1⟩
      rw [flatC_lst] at hown1
      have HO1 := Lib.hid (show OwnI w1 wr.heap.size v1 (Q i) from hown1)
      have HB1 := Lib.hid hb1
      obtain ⟨A1, c1, rfl, _, _, _⟩ := own_any hown1
      have hz1' := hb1.size
      have HR1 := Lib.hid (own_keep HO.out.row hb1)
      clear hown1 hb1 c0
      go_wp2_with (at_builtin; go_loud (refine wpList_append_own_at _ rfl _ _ 63 rfl w.heap.size 52 i0 _ 1 24 Try.underlying63 hi hz0 hz1 hz2 rfl (by omega) (.slice Ao i co) i (flatC (vsC vs) i) rfl (HR1.out.alloc _) ⟨w1.heap.size, 0, none⟩ 1 1 [.slice A1 (Q i).length c1] rfl rfl (cell_one_new _ _ _) (one_slice _ _ _) (by unfold maxLen; omega) (by omega) (by simp; omega) ?_; intro v2 w2 hown2 hgrow2 _ hat2; have HO2 := Lib.hid hown2; have HG2 := Lib.hid hgrow2; have HA2 := Lib.hid hat2; clear hown2 hgrow2 hat2))
      refine ⟨⟨i + 1, v2, _, by omega, by go_num, rfl, HO.out.snoc hBs HB1.out HO1.out HG2.out HA2.out HO2.out, ?_⟩, by simp [intOf]; omega⟩
      exact below_grown ((HB.out.trans (HB1.out.mono hBs)).alloc (by omega) _) (by simp; omega) HG2.out (fun k hk => (HO.out.row.lt k hk).1)
    · obtain rfl : i = n := by omega
      clear hO hB
      go_wp2_with fail
      go_ret
      exact ⟨_, vs, rfl, HO.out, HB.out⟩
end Go.Proofs.Ytjcegplockihfaa
