/- New registries, lines, nodes. -/
import Derived.Test.YtmjihhjcgkpmhaaTnCl
namespace Go.Proofs.Ytmjihhjcgkpmhaa
open Go.RowKit Go.Maps
set_option linter.unusedVariables false
/-- a node without actors: its block b, its number, its actors' map m -/
structure NdAt (w : World) (b : Nat) (id : Int) (m : Nat) : Prop where
  c0 : w.cell? ⟨b, 0, none⟩ = some (.int .i64 id)
  c2 : w.cell? ⟨b, 2, none⟩ = some (.iface 39 (.agg #[]))
  c3 : w.cell? ⟨b, 3, none⟩ = some (.map (some m))
  c4 : w.cell? ⟨b, 4, none⟩ = some (.slice none 0 0)
  c6 : w.cell? ⟨b, 6, none⟩ = some (.int .i64 0)
  fz : ∀ o, w.frozen? ⟨b, o, none⟩ = false
  ne : b ≠ m
  tab : w.ownsMap Try.prog 3 anyElem m 0 (.map [])
theorem NdAt.fr {S : Nat → Prop} {w w' : World} {b m : Nat} {id : Int} (h : NdAt w b id m) (hf : Fr S w w') (h1 : ¬ S b) (h2 : ¬ S m) : NdAt w' b id m :=
  ⟨hf.cell h.c0 h1, hf.cell h.c2 h1, hf.cell h.c3 h1, hf.cell h.c4 h1, hf.cell h.c6 h1, fun o => (hf.frozen (World.block_lt_of_cell? w _ h.c0) h1).trans (h.fz o), h.ne, hf.map h.tab h2⟩
theorem mkS : ∀ w, (Instr.makeMap 82 none).run Try.prog w = .ok (.map (some w.heap.size)) (w.alloc (.map #[] 0)) := fun w => by kernel_rfl
theorem mkA : ∀ w, (Instr.makeMap 92 none).run Try.prog w = .ok (.map (some w.heap.size)) (w.alloc (.map #[] 0)) := fun w => by kernel_rfl
theorem mkI : ∀ w, (Instr.makeMap 54 none).run Try.prog w = .ok (.map (some w.heap.size)) (w.alloc (.map #[] 0)) := fun w => by kernel_rfl
set_option maxRecDepth 100000 in
set_option maxHeartbeats 4000000 in
theorem nnew_any (n : Int) (w : World) (h1 : 1 ≤ n) (h2 : n ≤ 8) : Calls Try.prog 20 #[.int .i64 n] w fun e w' => ∃ t m, e = .returned (.tuple #[.pointer (some ⟨t, 0, none⟩), .int .i64 0]) ∧ w.heap.size ≤ t ∧ w.heap.size ≤ m ∧ NmAt w' t n 0 m (fun _ => none) ∧ Below w.heap.size w w' := by
  have d1 : decide (n < 1) = false := decide_eq_false (by omega)
  have d2 : decide (8 < n) = false := decide_eq_false (by omega)
  have hmk := mkS
  go_enter Try.func20, Try.ntmps20
  go_wp2_with fail
  have hz : (w.alloc (.map #[] 0)).heap.size = w.heap.size + 1 := by simp
  refine bodyPost_ret (v := .tuple #[.pointer (some ⟨w.heap.size + 1, 0, none⟩), .int .i64 0]) (by simp [results, Try.results20, go_sem]) rfl ⟨_, w.heap.size, rfl, by omega, by omega, ⟨by simp [go_sem], by simp [go_sem], by simp [go_sem], fun o => by simp [go_sem], by omega, ?_⟩, ((Below.refl _ _).alloc (Nat.le_refl _) _).alloc (by simp) _⟩
  exact (OwnT.made w).fr (S := fun _ => False) (Fr.of_below ((Below.refl _ _).alloc (Nat.le_refl _) _)) (fun h => h)
set_option maxRecDepth 100000 in
set_option maxHeartbeats 4000000 in
theorem lnew_any (w : World) : Calls Try.prog 21 #[.int .i64 8] w fun e w' => ∃ t, e = .returned (.tuple #[.pointer (some ⟨t, 0, none⟩), .int .i64 0]) ∧ Below w.heap.size w w' := by
  go_enter Try.func21, Try.ntmps21
  go_wp2_with fail
  refine bodyPost_ret (v := .tuple #[.pointer (some ⟨w.heap.size, 0, none⟩), .int .i64 0]) (by simp [results, Try.results21, go_sem]) rfl ⟨_, rfl, (Below.refl _ _).alloc (Nat.le_refl _) _⟩
set_option maxRecDepth 100000 in
set_option maxHeartbeats 4000000 in
theorem dnew_any (n : Int) (w : World) (h1 : 1 ≤ n) (h2 : n ≤ 8) : Calls Try.prog 19 #[.int .i64 n, .iface 39 (.agg #[]), .int .i64 3] w fun e w' => ∃ t m, e = .returned (.tuple #[.pointer (some ⟨t, 0, none⟩), .int .i64 0]) ∧ w.heap.size ≤ t ∧ w.heap.size ≤ m ∧ NdAt w' t n m ∧ Below w.heap.size w w' := by
  have d1 : decide (n < 1) = false := decide_eq_false (by omega)
  have d2 : decide (8 < n) = false := decide_eq_false (by omega)
  have hma := mkA
  have hmi := mkI
  go_enter Try.func19, Try.ntmps19
  go_wp2_with fail
  refine bodyPost_ret (v := .tuple #[.pointer (some ⟨w.heap.size + 1 + 1, 0, none⟩), .int .i64 0]) (by simp [results, Try.results19, go_sem]) rfl ⟨w.heap.size + 1 + 1, w.heap.size, rfl, by omega, by omega, ⟨by simp [go_sem], by simp [go_sem], by simp [go_sem], by simp [go_sem], by simp [go_sem], fun o => by simp [go_sem], by omega, ?_⟩, (((Below.refl _ _).alloc (Nat.le_refl _) _).alloc (by simp) _).alloc (by simp; omega) _⟩
  exact ((World.ownsMap_made w _ _ _).alloc _).alloc _
end Go.Proofs.Ytmjihhjcgkpmhaa
