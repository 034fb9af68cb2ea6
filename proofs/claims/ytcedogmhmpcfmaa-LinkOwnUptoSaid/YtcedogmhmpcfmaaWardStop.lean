/- Contract of (*Ward).stop. -/
import Derived.Test.YtcedogmhmpcfmaaWardPlain
import Derived.Test.YtcedogmhmpcfmaaRow
namespace Go.Proofs.Ytcedogmhmpcfmaa.Wa
open Go.RowKit
set_option linter.unusedVariables false
theorem infoI : (Try.prog.info? 3).map (fun i => (i.zero, i.size, i.bytes)) = some (some (.int .i64 0), 1, 8) := by kernel_rfl
theorem OwnI.alloc {w : World} {base : Nat} {v : Value} {l : List Int} (h : OwnI w base v l) (o : Obj) : OwnI (w.alloc o) base v l := World.ownsRow.alloc h o
theorem OwnI.grown {w w1 : World} {base : Nat} {v : Value} {l : List Int} {row : Option Nat} (h : OwnI w base v l) (hg : w.grownBy w1 row) (hne : ∀ k, v.ownBlock = some k → row ≠ some k) : OwnI w1 base v l := own_grown h hg hne
theorem OwnI.below {w w1 : World} {base : Nat} {v : Value} {l : List Int} (h : OwnI w base v l) (hb : Below w.heap.size w w1) : OwnI w1 base v l := own_keep h hb
theorem OwnI.mono {w : World} {base base' : Nat} {v : Value} {l : List Int} (h : OwnI w base v l) (hb : base' ≤ base) : OwnI w base' v l := own_mono h hb
theorem OwnI.blk {w : World} {base : Nat} {v : Value} {l : List Int} (h : OwnI w base v l) : ∀ k, v.ownBlock = some k → base ≤ k ∧ k < w.heap.size := World.ownsRow.lt h
theorem OwnI.nil (w : World) (base : Nat) : OwnI w base (.slice none 0 0) [] := World.ownsRow_nil _ _ _ _
/-- one number more -/
theorem wpList_append_int {ops : Array Oper} {rest : List Oper} {o : Oper} {a : Act} {w : World} {Q : Exit → Act → World → Prop} (hgd : o.guard = none) (s x : Operand)
    (ho : o.op = .call { callee := .builtin .append, args := #[s, x], argTypes := #[30, 30] }) (base : Nat) (v : Value) (l : List Int) (hs : a.eval s = v) (hown : OwnI w base v l)
    (H : Nat) (hH : w.heap.size = H) (y : Int) (hx : a.eval x = .slice (some ⟨H, 0, none⟩) 1 1) (hl : l.length ≤ 1000000) (hbase : base ≤ w.heap.size)
    (h : ∀ v' w', OwnI w' base v' (l ++ [y]) → w.grownBy w' v.ownBlock → (v'.ownBlock = v.ownBlock ∨ v'.ownBlock = some (H + 1)) → wpList Try.prog ops Q rest (a.put o.dst v') w') :
    wpList Try.prog ops Q (o :: rest) a (w.alloc (.cells #[.int .i64 y] 3)) := by
  obtain ⟨i0, hi, hz0, hz1, hz2⟩ := info_parts infoI
  subst hH
  refine wpList_append_own_at _ hgd s x 30 ho base 3 i0 (.int .i64 0) 1 8 Try.underlying30 hi hz0 hz1 hz2 rfl (by decide) v l.length (encI l) hs (hown.alloc _) ⟨w.heap.size, 0, none⟩ 1 1 [.int .i64 y] hx rfl (cell_one_new _ _ _) ?_ ?_ ?_ ?_ ?_
  · intro u hu; simp at hu; subst hu; rfl
  · unfold maxLen; omega
  · omega
  · simp; omega
  · intro v' w' h1 h2 _ h4
    refine h v' w' ?_ (grown_step (World.grownBy_alloc w _ _) h2 (.inl rfl)) (by simpa using h4)
    unfold OwnI encI
    rw [List.length_append, List.map_append]
    exact h1
def StopPost (base g cap n fr to : Nat) (R : Nat → Ch) (w : World) (e : Ending) (w' : World) : Prop :=
  ∃ v, e = .returned v ∧ OwnI w' w.heap.size v (stopIds R fr to) ∧ w'.ownsRow base 43 3 (.slice (some ⟨g, 0, none⟩) n cap) n (flatC (chC (offR R fr to)) n) ∧ w.grownBy w' (some g)
theorem offR_at (R : Nat → Ch) {q to : Nat} : offR R (q + 1) to q = R q := by simp [offR]; omega
theorem offR_step {R : Nat → Ch} {q to n : Nat} (hq : q < to) : ∀ i, i < n → chC (offR R q to) i = if i = q then (chC (offR R (q + 1) to) q).set 2 (.bool false) else chC (offR R (q + 1) to) i := by
  intro i _
  unfold chC offR
  by_cases e : i = q
  · subst e
    have h1 : i ≤ i ∧ i < to := ⟨Nat.le_refl _, hq⟩
    have h2 : ¬ (i + 1 ≤ i ∧ i < to) := by omega
    simp only [if_pos h1, if_neg h2, if_pos]
    rfl
  · rw [if_neg e]
    by_cases h1 : q ≤ i ∧ i < to
    · have h2 : q + 1 ≤ i ∧ i < to := by omega
      simp only [if_pos h1, if_pos h2]
    · have h2 : ¬ (q + 1 ≤ i ∧ i < to) := by omega
      simp only [if_neg h1, if_neg h2]
theorem offR_same {R : Nat → Ch} {q to : Nat} (h : (R q).lives = false) : offR R q to = offR R (q + 1) to := by
  funext i
  unfold offR
  by_cases e : i = q
  · subst e
    have h2 : ¬ (i + 1 ≤ i ∧ i < to) := by omega
    rw [if_neg h2]
    split
    · rw [← h]
    · rfl
  · by_cases h1 : q ≤ i ∧ i < to
    · have h2 : q + 1 ≤ i ∧ i < to := by omega
      rw [if_pos h1, if_pos h2]
    · have h2 : ¬ (q + 1 ≤ i ∧ i < to) := by omega
      rw [if_neg h1, if_neg h2]
theorem offR_none (R : Nat → Ch) (a : Nat) : offR R a a = R := by
  funext i
  unfold offR
  rw [if_neg (by omega)]
set_option maxRecDepth 100000 in
set_option maxHeartbeats 1000000 in
theorem stop_any (bw base g cap n fr to : Nat) (R : Nat → Ch) (w : World) (hto : to ≤ n) (hfr : fr ≤ to) (hn : n ≤ 20) (hb : bw < w.heap.size) (hne : bw ≠ g) (hw3 : w.cell? ⟨bw, 3, none⟩ = some (.slice (some ⟨g, 0, none⟩) n cap))
    (ho : w.ownsRow base 43 3 (.slice (some ⟨g, 0, none⟩) n cap) n (flatC (chC R) n)) :
    Calls Try.prog 50 #[.pointer (some ⟨bw, 0, none⟩), .int .i64 fr, .int .i64 to] w (StopPost base g cap n fr to R w) := by
  obtain ⟨i0, hi, hz0, hz1, hz2⟩ := info_parts infoI
  have hlt := (own_lt ho).2
  obtain ⟨hnc, hcm⟩ := own_cap ho
  have HO := Lib.hid ho
  clear ho
  go_enter Try.func50, Try.ntmps50
  go_wp2_with fail
  go_loopw [7, 8, 9] (fun u i _ wr => ∃ (q : Nat) (v : Value), fr ≤ q ∧ q ≤ to ∧ i = .int .i64 ((q : Int) - 1) ∧ v = u ∧ OwnI wr w.heap.size v (stopIds R q to) ∧ wr.ownsRow base 43 3 (.slice (some ⟨g, 0, none⟩) n cap) n (flatC (chC (offR R q to)) n) ∧ w.grownBy wr (some g)) (fun _ i _ _ => (intOf i + 1).toNat)
  case atStart => exact ⟨to, _, hfr, Nat.le_refl _, rfl, rfl, by unfold OwnI stopIds idsOf; rw [ksUp_self]; exact World.ownsRow_nil _ _ _ _, by rw [offR_none]; exact HO.out, grown_self _ _⟩
  case round =>
    obtain ⟨q', v, hq1, hq2, rfl, rfl, hown, hrow, hg⟩ := hrel
    have hsz := hg.size
    have w3 : wr.cell? ⟨bw, 3, none⟩ = some (.slice (some ⟨g, 0, none⟩) n cap) := (grown_cell hg hb (by simp [hne])).trans hw3
    by_cases hlq : fr < q'
    · obtain ⟨q, rfl⟩ : ∃ q, q' = q + 1 := ⟨q' - 1, by omega⟩
      have hqn : q < n := by omega
      have e1 : (((q + 1 : Nat) : Int) - 1) = (q : Int) := by omega
      rw [e1]
      have hge : (fr : Int) ≤ (q : Int) := by omega
      have c0 : wr.cell? ⟨g, q * 3, none⟩ = some (.int .i64 (R q).id) := by have := own_cellC hrow (chC_len _) hqn (j := 0) (by omega); rw [Nat.add_zero] at this; rw [this]; simp [chC, offR_at]
      have c2 : wr.cell? ⟨g, q * 3 + 2, none⟩ = some (.bool (R q).lives) := by rw [own_cellC hrow (chC_len _) hqn (j := 2) (by omega)]; simp [chC, offR_at]
      have f2 : wr.frozen? ⟨g, q * 3 + 2, none⟩ = false := hrow.frozenAt _
      have i1 : (0 : Int) ≤ (q : Int) := by omega
      have i2 : (q : Int) < (n : Int) := by omega
      have HW := Lib.hid hown
      have HR := Lib.hid hrow
      have HG := Lib.hid hg
      have hstep := stopIds_step R (show q < to by omega)
      have HS := Lib.hid hstep
      have HL := Lib.hid (stopIds_len R (q + 1) to)
      have HR2 := Lib.hid (own_setC hrow (chC_len _) (j := 2) (by omega) (.bool false) (offR_step (R := R) (n := n) (show q < to by omega)))
      clear hown hrow hg hstep hw3
      obtain ⟨r, hr⟩ : ∃ r, R q = r := ⟨_, rfl⟩
      have HK := Lib.hid hr
      rw [hr] at c0 c2
      clear hr
      obtain ⟨id, when_, lives⟩ := r
      dsimp only at c0 c2
      cases lives with
      | true =>
        have hv := HW.out
        have HO1 := Lib.hid (hv.grown HR2.out.2 (fun k hk e => by injection e with e; subst e; have := (hv.blk g hk).1; omega))
        have HB := Lib.hid hv.blk
        clear hv
        go_wp2_with (at_builtin; go_loud (refine wpList_append_int rfl _ _ rfl w.heap.size v _ rfl HO1.out wr.heap.size (by simp) id rfl (by have := HL.out; omega) (by simp; omega) ?_; intro v' w1 hown' hgrow hor))
        have HO2 := Lib.hid hown'
        have HG2 := Lib.hid hgrow
        clear hown' hgrow hor
        go_wp2_with fail
        go_roundw
        case rel =>
          have g1 := HG2.out
          refine ⟨q, v', by omega, by omega, rfl, rfl, ?_, ?_, ?_⟩
          · rw [HS.out, HK.out]; exact HO2.out
          · exact own_grown HR2.out.1 g1 (fun k hk e => by injection hk with hk; subst hk; have := (HB.out g e).1; omega)
          · exact grown_step (grown_step HG.out HR2.out.2 (.inl rfl)) g1 (.inr (fun k hk => (HB.out k hk).1))
        case measure => simp [intOf]
      | false =>
        go_wp2_with fail
        go_roundw
        case rel =>
          refine ⟨q, _, by omega, by omega, rfl, rfl, ?_, ?_, HG.out⟩
          · rw [HS.out, HK.out]; simpa using HW.out
          · rw [offR_same (by rw [HK.out])]; exact HR.out
        case measure => simp [intOf]
    · obtain rfl : q' = fr := by omega
      have hge : ¬ ((q' : Int) ≤ (q' : Int) - 1) := by omega
      clear w3 hw3
      have HW := Lib.hid hown
      have HR := Lib.hid hrow
      have HG := Lib.hid hg
      clear hown hrow hg
      go_wp2_with fail
      go_ret
      exact ⟨v, rfl, HW.out, HR.out, HG.out⟩
end Go.Proofs.Ytcedogmhmpcfmaa.Wa
