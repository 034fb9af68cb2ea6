/- A cluster's first actors: Spawn. -/
import Derived.Test.YtmjihhjcgkpmhaaTnNew
namespace Go.Proofs.Ytmjihhjcgkpmhaa
open Go.RowKit Go.Maps
set_option linter.unusedVariables false
/-- a cluster while its nodes get their first actors: i have one -/
structure CS (w : World) (p mh N i : Nat) (va vb : Value) (na nb mb tb L : Nat → Nat) (D : DataW Value) : Prop where
  c0 : w.cell? ⟨p, 0, none⟩ = some va
  c1 : w.cell? ⟨p, 1, none⟩ = some vb
  c7 : w.cell? ⟨p, 7, none⟩ = some (.map (some mh))
  ra : w.ownsRow (p + 1) 67 1 va N (ptrs nb N)
  rb : w.ownsRow (p + 1) 48 1 vb N (ptrs tb N)
  nd : ∀ k, i ≤ k → k < N → NdAt w (nb k) ((k : Int) + 1) (na k)
  nm : ∀ k, k < N → NmAt w (tb k) ((k : Int) + 1) 0 (mb k) (fun _ => none)
  lo : ∀ k, k < N → (L (2 * k) ≤ na k ∧ L (2 * k) ≤ nb k) ∧ (na k < L (2 * k + 1) ∧ nb k < L (2 * k + 1)) ∧ (L (2 * k + 1) ≤ mb k ∧ L (2 * k + 1) ≤ tb k) ∧ mb k < L (2 * k + 2) ∧ tb k < L (2 * k + 2)
  mono : ∀ j k, j ≤ k → k ≤ 2 * N → L j ≤ L k
  l0 : p < L 0
  mp : mh < p
  ga : ∀ g, va.ownBlock = some g → ∀ k, k < N → g ≠ na k ∧ g ≠ nb k ∧ g ≠ mb k ∧ g ≠ tb k
  gb : ∀ g, vb.ownBlock = some g → ∀ k, k < N → g ≠ na k ∧ g ≠ nb k ∧ g ≠ mb k ∧ g ≠ tb k
  hm : w.ownsMap Try.prog 3 anyElem mh i D
section
variable {w w' : World} {p me mh N i : Nat} {va vb : Value} {na nb mb tb L : Nat → Nat} {D : DataW Value}
theorem CB.toCS (H : CB w p me mh N va vb na nb mb tb L) : CS w p mh N 0 va vb na nb mb tb L (.map []) :=
  ⟨H.c0, H.c1, H.c7, H.ra, H.rb, fun k _ hk => H.nd k hk, H.nm, H.lo, H.mono, H.l0, H.mp.2.1, H.ga, H.gb, H.hm⟩
theorem CS.gt (H : CS w p mh N i va vb na nb mb tb L D) {k : Nat} (hk : k < N) : p < na k ∧ p < nb k ∧ p < mb k ∧ p < tb k := by
  have h0 := H.l0
  have h1 := H.mono 0 (2 * k) (by omega) (by omega)
  have h2 := H.mono (2 * k) (2 * k + 1) (by omega) (by omega)
  have := H.lo k hk
  omega
theorem CS.sep (H : CS w p mh N i va vb na nb mb tb L D) {j k : Nat} (hj : j < N) (hk : k < N) : (na j ≠ mb k ∧ na j ≠ tb k ∧ nb j ≠ mb k ∧ nb j ≠ tb k) ∧ (j ≠ k → na j ≠ na k ∧ na j ≠ nb k ∧ nb j ≠ na k ∧ nb j ≠ nb k ∧ mb j ≠ mb k ∧ mb j ≠ tb k ∧ tb j ≠ mb k ∧ tb j ≠ tb k) := by
  have a := H.lo j hj
  have b := H.lo k hk
  rcases Nat.lt_trichotomy j k with h | h | h
  · have m1 := H.mono (2 * j + 2) (2 * k) (by omega) (by omega)
    have m2 := H.mono (2 * k) (2 * k + 1) (by omega) (by omega)
    have m3 := H.mono (2 * j + 1) (2 * j + 2) (by omega) (by omega)
    exact ⟨by omega, fun _ => by omega⟩
  · subst h
    exact ⟨by omega, fun e => absurd rfl e⟩
  · have m1 := H.mono (2 * k + 2) (2 * j) (by omega) (by omega)
    have m2 := H.mono (2 * j) (2 * j + 1) (by omega) (by omega)
    have m3 := H.mono (2 * k + 1) (2 * k + 2) (by omega) (by omega)
    exact ⟨by omega, fun _ => by omega⟩
theorem fr_spawned {a b m : Nat} {w3 : World} (hf : Fr (fun x => x = a ∨ x = b) w w') (hg : w'.grownBy w3 (some m)) : Fr (fun x => (x = a ∨ x = b) ∨ x = m) w w3 :=
  (hf.weak fun x h => .inl h).trans' (Fr.of_grown hg fun g e => .inl (.inr (by injection e with e; exact e.symm)))
/-- what the first actor of node i writes -/
theorem CS.spawned (H : CS w p mh N i va vb na nb mb tb L D) (hi : i < N) (hf : Fr (fun x => x = nb i ∨ x = na i) w w') {w3 : World} {D' : DataW Value} (hg : w'.grownBy w3 (some mh)) (hm : w3.ownsMap Try.prog 3 anyElem mh (i + 1) D') : CS w3 p mh N (i + 1) va vb na nb mb tb L D' := by
  have hf3 : Fr (fun x => (x = nb i ∨ x = na i) ∨ x = mh) w w3 := (hf.weak fun x h => .inl h).trans' (Fr.of_grown hg fun g e => .inl (.inr (by injection e with e; exact e.symm)))
  have hgt := H.gt hi
  have hmp := H.mp
  have hS : ∀ x, x ≠ nb i → x ≠ na i → x ≠ mh → ¬ ((x = nb i ∨ x = na i) ∨ x = mh) := by
    rintro x h1 h2 h3 ((h | h) | h)
    · exact h1 h
    · exact h2 h
    · exact h3 h
  refine ⟨hf3.cell H.c0 (hS _ (by omega) (by omega) (by omega)), hf3.cell H.c1 (hS _ (by omega) (by omega) (by omega)), hf3.cell H.c7 (hS _ (by omega) (by omega) (by omega)),
    hf3.row H.ra (fun g hg => hS _ (H.ga g hg i hi).2.1 (H.ga g hg i hi).1 (by have := (H.ra.lt g hg).1; omega)), hf3.row H.rb (fun g hg => hS _ (H.gb g hg i hi).2.1 (H.gb g hg i hi).1 (by have := (H.rb.lt g hg).1; omega)),
    fun k h1 h2 => ?_, fun k hk => ?_, H.lo, H.mono, H.l0, H.mp, H.ga, H.gb, hm⟩
  · have s := (H.sep h2 hi).2 (by omega)
    have g := H.gt h2
    exact (H.nd k (by omega) h2).fr hf3 (hS _ s.2.2.2.1 s.2.2.1 (by omega)) (hS _ s.2.1 s.1 (by omega))
  · have s := (H.sep hi hk).1
    have g := H.gt hk
    exact (H.nm k hk).fr hf3 (hS _ s.2.2.2.symm s.2.1.symm (by omega)) (hS _ s.2.2.1.symm s.1.symm (by omega))
end
theorem ptrs_get (f : Nat → Nat) {N i : Nat} (hi : i < N) : (ptrs f N)[i]? = some (.pointer (some ⟨f i, 0, none⟩)) := by simp [ptrs, hi]
set_option maxRecDepth 100000 in
set_option maxHeartbeats 4000000 in
theorem at_any (p N ga ca i b : Nat) (n : Int) (w : World) (c0 : w.cell? ⟨p, 0, none⟩ = some (.slice (some ⟨ga, 0, none⟩) N ca)) (hi : i < N) (h8 : N ≤ 8) (hn : n = (i : Int) + 1) (cr : w.cell? ⟨ga, i, none⟩ = some (.pointer (some ⟨b, 0, none⟩))) :
    Calls Try.prog 22 #[.pointer (some ⟨p, 0, none⟩), .int .i64 n] w fun e w' => e = .returned (.pointer (some ⟨b, 0, none⟩)) ∧ w' = w := by
  have i3 : (n - 1).toNat = i := by omega
  have i4 : IntKind.i64.wrap (n - 1) = n - 1 := by rw [IntWalk.i64_in _ (by omega)]
  have i5 : (0 : Int) ≤ n - 1 := by omega
  have i6 : n - 1 < (N : Int) := by omega
  have i7 : (1 : Int) ≤ n := by omega
  clear hn
  go_enter Try.func22, Try.ntmps22
  go_wp2_with fail
  go_ret
  exact ⟨rfl, rfl⟩
set_option maxRecDepth 100000 in
set_option maxHeartbeats 4000000 in
theorem cspawn_any (p mh N i : Nat) (va vb : Value) (na nb mb tb L : Nat → Nat) (D : DataW Value) (w : World) (H : CS w p mh N i va vb na nb mb tb L D) (hi : i < N) (h8 : N ≤ 8) :
    Calls Try.prog 10 #[.pointer (some ⟨p, 0, none⟩), .int .i64 ((i : Int) + 1), .string ⟨#[115, 105, 110, 107]⟩, .slice none 0 0] w fun e w' => e = .returned (.tuple #[.int .i64 (((i : Int) + 1) * 1000 + 1), .int .i64 0]) ∧ (∃ D', CS w' p mh N (i + 1) va vb na nb mb tb L D') ∧ Fr (fun x => (x = nb i ∨ x = na i) ∨ x = mh) w w' := by
  have HC := Lib.hid H
  obtain ⟨A, ca, rfl, hnc, hcm, -⟩ := own_any H.ra
  have c0 := H.c0
  have HT := Lib.hid (there_any p N ca A ((i : Int) + 1) w c0 (by omega) (by omega))
  have HS := Lib.hid (spawn_any (nb i) (na i) ((i : Int) + 1) w (H.nd i (Nat.le_refl _) hi) (by omega) (by omega))
  obtain ⟨ga, cap, hv, -, hgl, -⟩ := own_form H.ra (by omega)
  injection hv with e1 _ e3
  subst e1 e3
  have cr : w.cell? ⟨ga, i, none⟩ = some (.pointer (some ⟨nb i, 0, none⟩)) := by
    rw [World.ownsRow.cellAt H.ra i (by omega)]
    exact ptrs_get nb hi
  have HNX := Lib.hid (show ∀ w2, Fr (fun x => x = nb i ∨ x = na i) w w2 → w2.ownsMap Try.prog 3 anyElem mh i D ∧ w2.cell? ⟨p, 7, none⟩ = some (.map (some mh)) from fun w2 hf => by
    have g := H.gt hi
    have hmp := H.mp
    exact ⟨hf.map H.hm (by omega), hf.cell H.c7 (by omega)⟩)
  have hkey : keyOf Try.prog 3 (.int .i64 (((i : Int) + 1) * 1000 + 1)) = some (.int .i64 (((i : Int) + 1) * 1000 + 1)) := keyZ (by omega) (by omega)
  have HKEY := Lib.hid hkey
  have i3 : ((i : Int) + 1 - 1).toNat = i := by omega
  have i5 : (0 : Int) ≤ (i : Int) + 1 - 1 := by omega
  have i6 : (i : Int) + 1 - 1 < (N : Int) := by omega
  clear H hkey
  go_enter Try.func10, Try.ntmps10
  go_wp2_with fail
  refine HT.out.mono ?_
  rintro e w1 ⟨rfl, rfl⟩
  go_wp2_with fail
  refine (at_any p N ga ca i (nb i) _ w1 c0 hi h8 rfl cr).mono ?_
  rintro e w2 ⟨rfl, rfl⟩
  go_wp2_with fail
  refine HS.out.mono ?_
  rintro e w3 ⟨rfl, hf⟩
  obtain ⟨hm, c7⟩ := HNX.out w3 hf
  have hany : anyElem (Value.bool true) = some (DataW.held (Value.bool true), []) := rfl
  have hin : i < maxLen := by unfold maxLen; omega
  obtain ⟨w4, hrun, hm4, hg4⟩ := hm.update lawN Try.underlying55 hin HKEY.out hany
  have HQ := Lib.hid (HC.out.spawned hi hf hg4 hm4)
  have HF := Lib.hid (fr_spawned hf hg4)
  clear hm hm4 hg4 hf
  go_wp2_with fail
  refine bodyPost_ret (results_two Try.results10 _ _) rfl ?_
  exact ⟨rfl, ⟨_, HQ.out⟩, HF.out⟩
end Go.Proofs.Ytmjihhjcgkpmhaa
