/- link.Add of a first row; copies of nothing. -/
import Derived.Test.YtmjihhjcgkpmhaaTnMake
import Derived.Test.YtmjihhjcgkpmhaaRowOps
import Derived.Maps.AppendAt
namespace Go.Proofs.Ytmjihhjcgkpmhaa
open Go.RowKit
set_option linter.unusedVariables false
theorem results_two {P : Program} {fn : Func} {a b : Nat} (h : fn.results = #[.tmp a, .tmp b]) (tmps : Array Value) (w : World) : (results fn tmps).run P w = .ok (.tuple #[tmps.getD a undef, tmps.getD b undef]) w := by
  simp [results, h]
theorem infoLR : (Try.prog.info? 139).map (fun i => (i.zero, i.size, i.bytes)) = some (some (.agg #[.int .i64 0, .slice none 0 0, .slice none 0 0]), 3, 56) := by kernel_rfl
set_option maxHeartbeats 4000000 in
set_option maxRecDepth 100000 in
/-- Insert of one element into nothing -/
theorem ins_nil (base vb : Nat) (r : List Value) (w : World) (hb : base ≤ w.heap.size) (hvb : w.heap[vb]? = some (.cells r.toArray 139 (0, 0))) (hr : r.length = 3) (h1r : ∀ v ∈ r, v.oneCell' = true) :
    Calls Try.prog 47 #[.slice none 0 0, .int .i64 0, .slice (some ⟨vb, 0, none⟩) 1 1] w fun e w' => ∃ v, e = .returned v ∧ w'.ownsRow base 139 3 v 1 r ∧ w.grownBy w' none := by
  obtain ⟨i0, hi0, hz0, hzs, hzb⟩ := info_parts infoLR
  have HV := Lib.hid (show ∀ j u, r[j]? = some u → w.cell? ((⟨vb, 0, none⟩ : Addr).add j) = some u from fun j u hj => by rw [Addr.add_lit, cell_of_row hvb]; simpa using hj)
  have H1 := Lib.hid h1r
  have HR := Lib.hid hr
  clear hvb hr h1r
  go_enter Try.func47, Try.ntmps47
  go_wp2_with (at_builtin; go_loud (refine wpList_append_own_at _ rfl _ _ 93 rfl base 139 i0 _ 3 56 Try.underlying93 hi0 hz0 hzs hzb rfl (by omega) (.slice none 0 0) 0 [] rfl (World.ownsRow_nil _ _ _ _) ⟨vb, 0, none⟩ 1 1 r rfl (by rw [HR.out]) HV.out H1.out (by unfold maxLen; omega) (by omega) (by omega) ?_; intro v1 w1 hown1 hgrow1 _ _; have HO1 := Lib.hid hown1; have HG1 := Lib.hid hgrow1; clear hown1 hgrow1))
  all_goals
    go_ret
    exact ⟨_, rfl, HO1.out, HG1.out⟩
set_option maxRecDepth 100000 in
set_option maxHeartbeats 4000000 in
theorem vclone_nil (w : World) : Calls Try.prog 91 #[.slice none 0 0] w fun e w' => e = .returned (.slice none 0 0) ∧ w' = w := by
  have heq : ∀ w, Sem.run Try.prog (binOp .eql 43 (.slice none 0 0) (.slice none 0 0)) w = .ok (.bool true) w := fun w => by kernel_rfl
  go_enter Try.func91, Try.ntmps91
  go_wp2_with fail
  go_ret
  exact ⟨rfl, rfl⟩
set_option maxRecDepth 100000 in
set_option maxHeartbeats 4000000 in
theorem each_nil (f : Value) (w : World) : Calls Try.prog 44 #[.slice none 0 0, f] w fun e w' => e = .returned (.slice none 0 0) ∧ w' = w := by
  go_enter Try.func44, Try.ntmps44
  go_wp2_with fail
  go_loopw [5, 10] (fun v x wr => v = .slice none 0 0 ∧ x = .int .i64 0 ∧ wr = w) (fun _ _ _ => 0)
  case atStart => exact ⟨rfl, rfl, rfl⟩
  case round =>
    obtain ⟨rfl, rfl, rfl⟩ := hrel
    go_wp2_with fail
    go_ret
    exact ⟨rfl, rfl⟩
set_option maxRecDepth 100000 in
set_option maxHeartbeats 4000000 in
theorem values_nil (w : World) : Calls Try.prog 38 #[.slice none 0 0] w fun e w' => e = .returned (.slice none 0 0) ∧ w' = w := by
  go_enter Try.func38, Try.ntmps38
  go_wp2_with fail
  refine (each_nil _ w).mono ?_
  rintro e w1 ⟨rfl, rfl⟩
  go_wp2_with fail
  go_ret
  exact ⟨rfl, rfl⟩
set_option maxRecDepth 100000 in
set_option maxHeartbeats 4000000 in
theorem lcheck_nil (w : World) : Calls Try.prog 46 #[.slice none 0 0] w fun e w' => e = .returned (.int .i64 0) ∧ w' = w := by
  go_enter Try.func46, Try.ntmps46
  go_wp2_with fail
  go_loopw [12] (fun x wr => x = .int .i64 0 ∧ wr = w) (fun _ _ => 0)
  case atStart => exact ⟨rfl, rfl⟩
  case round =>
    obtain ⟨rfl, rfl⟩ := hrel
    go_wp2_with fail
    go_ret
    exact ⟨rfl, rfl⟩
set_option maxRecDepth 100000 in
set_option maxHeartbeats 4000000 in
theorem lcopy_nil (w : World) : Calls Try.prog 48 #[.slice none 0 0] w fun e w' => e = .returned (.slice none 0 0) ∧ w' = w := by
  go_enter Try.func48, Try.ntmps48
  go_wp2_with fail
  go_loopw [3, 8] (fun v x wr => v = .slice none 0 0 ∧ x = .int .i64 0 ∧ wr = w) (fun _ _ _ => 0)
  case atStart => exact ⟨rfl, rfl, rfl⟩
  case round =>
    obtain ⟨rfl, rfl, rfl⟩ := hrel
    go_wp2_with fail
    go_ret
    exact ⟨rfl, rfl⟩
set_option maxRecDepth 100000 in
set_option maxHeartbeats 4000000 in
theorem ladd_nil (ref : Int) (w : World) (h1 : 1 ≤ ref) : Calls Try.prog 40 #[.slice none 0 0, .int .i64 ref] w fun e w' => ∃ A n c, e = .returned (.tuple #[.slice A n c, .int .i64 0]) ∧ Below w.heap.size w w' := by
  have d1 : decide (ref < 1) = false := decide_eq_false (by omega)
  go_enter Try.func40, Try.ntmps40
  go_wp2_with fail
  refine (lcheck_nil w).mono ?_
  rintro e w1 ⟨rfl, rfl⟩
  go_wp2_with fail
  go_loopw [7] (fun x wr => x = .int .i64 0 ∧ wr = w1) (fun _ _ => 0)
  case atStart => exact ⟨rfl, rfl⟩
  case round =>
    obtain ⟨rfl, rfl⟩ := hrel
    go_wp2_with fail
    refine (lcopy_nil _).mono ?_
    rintro e w2 ⟨rfl, rfl⟩
    go_wp2_with fail
    have hz : w2.heap.size ≤ (w2.alloc (.cells #[.int .i64 ref, .slice none 0 0, .slice none 0 0] 139)).heap.size := by simp
    refine (ins_nil w2.heap.size w2.heap.size [.int .i64 ref, .slice none 0 0, .slice none 0 0] _ hz (MapKept.heap_alloc w2 _).1 rfl (by simp [Value.oneCell'])).mono ?_
    rintro e w3 ⟨v, rfl, hO, hg⟩
    have HB := Lib.hid (show Below w2.heap.size w2 w3 from ((Below.refl _ w2).alloc (Nat.le_refl _) _).grown hg hz (fun k e => by cases e))
    obtain ⟨A, c, rfl, -, -, -⟩ := own_any hO
    clear hO hg hz
    go_wp2_with fail
    refine bodyPost_ret (results_two Try.results40 _ _) rfl ⟨_, _, _, rfl, HB.out⟩
end Go.Proofs.Ytmjihhjcgkpmhaa
