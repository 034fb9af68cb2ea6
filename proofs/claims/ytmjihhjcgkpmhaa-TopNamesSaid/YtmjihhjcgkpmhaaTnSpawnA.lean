/- The first actor of a node. -/
import Derived.Test.YtmjihhjcgkpmhaaTnAdd
import Derived.Test.YtmjihhjcgkpmhaaStepCall
import Derived.Deep.RegionLaw
namespace Go.Proofs.Ytmjihhjcgkpmhaa
open Go.RowKit Go.Maps
set_option linter.unusedVariables false
def sinkS : ByteArray := ⟨#[115, 105, 110, 107]⟩
set_option maxRecDepth 100000 in
set_option maxHeartbeats 4000000 in
theorem make_any (self : Int) (w : World) : Calls Try.prog 90 #[.agg #[], .string ⟨#[115, 105, 110, 107]⟩, .slice none 0 0, .int .i64 self] w fun e w' => ∃ v, e = .returned (.tuple #[v, .int .i64 0]) ∧ (∃ t x, v = .iface t x) ∧ Below w.heap.size w w' := by
  go_enter Try.func90, Try.ntmps90
  go_wp2_with fail
  refine (vclone_nil _).mono ?_
  rintro e w1 ⟨rfl, rfl⟩
  go_wp2_with fail
  exact bodyPost_ret (results_two Try.results90 _ _) rfl ⟨_, rfl, ⟨_, _, rfl⟩, ((Below.refl _ _).alloc (Nat.le_refl _) _).alloc (by simp) _⟩
set_option maxRecDepth 100000 in
set_option maxHeartbeats 4000000 in
theorem diary_any (self : Int) (w : World) : Calls Try.prog 31 #[.iface 39 (.agg #[]), .string ⟨#[115, 105, 110, 107]⟩, .slice none 0 0, .int .i64 self] w fun e w' => ∃ b, e = .returned (.tuple #[.pointer (some ⟨b, 0, none⟩), .int .i64 0]) ∧ Below w.heap.size w w' := by
  have hm : ∀ w, Sem.run Try.prog (method 310 39 (.agg #[]) "Make") w = .ok (90, .agg #[]) w := fun _ => by kernel_rfl
  go_enter Try.func31, Try.ntmps31
  go_wp2_with fail
  refine (make_any self w).mono ?_
  rintro e w1 ⟨_, rfl, ⟨t, x, rfl⟩, hb⟩
  have HB := Lib.hid hb
  clear hb
  go_wp2_with fail
  refine (values_nil _).mono ?_
  rintro e w2 ⟨rfl, rfl⟩
  go_wp2_with fail
  exact bodyPost_ret (results_two Try.results31 _ _) rfl ⟨_, rfl, HB.out.alloc HB.out.size _⟩
set_option maxRecDepth 100000 in
set_option maxHeartbeats 4000000 in
theorem change_any (b n c : Nat) (A : Option Addr) (u : Value) (w : World) (h4 : w.cell? ⟨b, 4, none⟩ = some u) (hf : w.frozen? ⟨b, 4, none⟩ = false) : Calls Try.prog 39 #[.pointer (some ⟨b, 0, none⟩), .slice A n c, .int .i64 0] w fun e w' => e = .returned (.tuple #[]) ∧ Fr (fun x => x = b) w w' := by
  go_enter Try.func39, Try.ntmps39
  go_wp2_with fail
  exact bodyPost_end (results_none rfl _ _ _) rfl ⟨rfl, Fr.set (S := fun x => x = b) (Fr.refl _ w) (.inl rfl) _⟩
theorem lawN : Keyed Try.prog 3 := int_keyed Try.underlying3
theorem keyZ {x : Int} (h1 : -9223372036854775808 ≤ x) (h2 : x ≤ 9223372036854775807) : keyOf Try.prog 3 (.int .i64 x) = some (.int .i64 x) := keyOf_int_mk Try.underlying3 (by
  have e1 : IntKind.i64.min = -9223372036854775808 := by decide
  have e2 : IntKind.i64.max = 9223372036854775807 := by decide
  show (decide (IntKind.i64.min ≤ x) && decide (x ≤ IntKind.i64.max)) = true
  rw [e1, e2, Bool.and_eq_true, decide_eq_true_eq, decide_eq_true_eq]
  exact ⟨h1, h2⟩)
set_option maxRecDepth 100000 in
set_option maxHeartbeats 4000000 in
theorem nadd_any (b ab ma : Nat) (id ref : Int) (w : World) (hN : w.cell? ⟨b, 3, none⟩ = some (.map (some ma))) (h4 : w.cell? ⟨b, 4, none⟩ = some (.slice none 0 0)) (hf : w.frozen? ⟨b, 4, none⟩ = false) (hm : w.ownsMap Try.prog 3 anyElem ma 0 (.map [])) (ha : w.cell? ⟨ab, 1, none⟩ = some (.int .i64 ref)) (hne : b ≠ ma) (hna : ab ≠ ma) (h1 : 1 ≤ ref) (h2 : ref ≤ 9223372036854775807) :
    Calls Try.prog 33 #[.pointer (some ⟨b, 0, none⟩), .pointer (some ⟨ab, 0, none⟩)] w fun e w' => e = .returned (.tuple #[]) ∧ Fr (fun x => x = b ∨ x = ma) w w' := by
  obtain ⟨w1, hrun, -, hg1⟩ := (World.ownsMap.drew hm).update lawN Try.underlying92 (by unfold maxLen; omega) (keyZ (by omega) h2) (show anyElem (.pointer (some ⟨ab, 0, none⟩)) = some (.held _, []) from rfl)
  have hlb : b < w.drew.heap.size := World.block_lt_of_cell? w _ hN
  have hla : ab < w.drew.heap.size := World.block_lt_of_cell? w _ ha
  have c4 : w1.cell? ⟨b, 4, none⟩ = some (.slice none 0 0) := (grown_cell (b := b) (o := 4) hg1 hlb (fun e => hne (by injection e))).trans h4
  have f4 : w1.frozen? ⟨b, 4, none⟩ = false := (grown_frozen (b := b) (o := 4) hg1 hlb (fun e => hne (by injection e))).trans hf
  have a1 : w1.cell? ⟨ab, 1, none⟩ = some (.int .i64 ref) := (grown_cell (b := ab) (o := 1) hg1 hla (fun e => hna (by injection e))).trans ha
  have HF1 := Lib.hid (show Fr (fun x => x = b ∨ x = ma) w w1 from (Fr.refl _ w).drew.trans' (Fr.of_grown hg1 (fun k e => .inl (.inr (by injection e with e; exact e.symm)))))
  have hlb1 : b < w1.heap.size := World.block_lt_of_cell? w1 _ c4
  have HC4 := Lib.hid c4
  have HF4 := Lib.hid f4
  clear hg1 hm
  go_enter Try.func33, Try.ntmps33
  go_wp2_with fail
  go_region
  clear hrun hN ha h4 hf
  go_wp2_with fail
  have z4 : w1.drew.cell? ⟨b, 4, none⟩ = some (.slice none 0 0) := c4
  have z1 : w1.drew.cell? ⟨ab, 1, none⟩ = some (.int .i64 ref) := a1
  go_region_law
    (first
      | (refine step_call2 (by rfl) 40 (fun _ _ => by kernel_rfl) _ _ _ _ (by rfl) (.slice none 0 0) (.int .i64 ref) (by first | (simp [Act.eval]; done) | simp [Act.eval, Act.put]) (by first | (simp [Act.eval]; done) | simp [Act.eval, Act.put]) (ladd_nil ref w1.drew h1) ?_; rintro e wa ⟨A, n, c, rfl, hb⟩; refine ⟨_, rfl, ?_⟩; have HBA := Lib.hid (show Below w1.heap.size w1 wa from below_drew' hb); clear hb)
      | (refine step_call3 (by rfl) 39 (fun _ _ => by kernel_rfl) _ _ _ _ _ _ (by rfl) (.pointer (some ⟨b, 0, none⟩)) (.slice A n c) (.int .i64 0) (by first | (simp [Act.eval]; done) | simp [Act.eval, Act.put]) (by first | (simp [Act.eval]; done) | simp [Act.eval, Act.put]) (by first | (simp [Act.eval]; done) | simp [Act.eval, Act.put]) (change_any b n c A _ wa ((HBA.out.cell (p := ⟨b, 4, none⟩) hlb1).trans HC4.out) ((HBA.out.frozen (p := ⟨b, 4, none⟩) hlb1).trans HF4.out)) ?_; rintro e wb ⟨rfl, hf⟩; refine ⟨_, rfl, ?_⟩; have HFB := Lib.hid ((HF1.out.trans' (Fr.of_below HBA.out)).trans' (hf.weak (fun x h => .inl h))); clear hf))
  all_goals
    go_wp2_with fail
    exact bodyPost_end (results_none rfl _ _ _) rfl ⟨rfl, HFB.out⟩
end Go.Proofs.Ytmjihhjcgkpmhaa
