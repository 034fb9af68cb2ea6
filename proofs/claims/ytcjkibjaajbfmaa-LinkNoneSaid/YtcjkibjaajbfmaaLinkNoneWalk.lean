/- The walk of the law LinkNone. -/
import Derived.Test.YtcjkibjaajbfmaaOpen
namespace Go.Proofs.Ytcjkibjaajbfmaa
open Go.RowKit Go.ChangeShapes Go.WideShapes
set_option linter.unusedVariables false
set_option maxHeartbeats 400000 in
theorem linkCheck_nil (w : World) : Calls Try.prog 41 #[.slice none 0 0] w fun e w' => e = .returned (.int .i64 0) ∧ w = w' := by
  go_enter Try.func41, Try.ntmps41
  go_wp2_with fail
  refine wp_loop_rounds 1 ?_
  rw [rounds_succ]
  go_wp2_with fail
  go_ret
  exact ⟨rfl, rfl⟩
set_option maxHeartbeats 400000 in
theorem copyOf_nil (w : World) : Calls Try.prog 59 #[.slice none 0 0] w fun e w' => e = .returned (.slice none 0 0) ∧ w = w' := by
  go_enter Try.func59, Try.ntmps59
  go_wp2_with fail
  refine wp_loop_rounds 1 ?_
  rw [rounds_succ]
  go_wp2_with fail
  go_ret
  exact ⟨rfl, rfl⟩
theorem infoR : (Try.prog.info? 68).map (fun i => (i.zero, i.size, i.bytes)) = some (some (.agg #[.int .i64 0, .slice none 0 0, .slice none 0 0]), 3, 56) := by kernel_rfl
theorem cell_three_new (w : World) (a b c : Value) (t : TypeId) : ∀ j u, [a, b, c][j]? = some u → (w.alloc (.cells #[a, b, c] t)).cell? ((⟨w.heap.size, 0, none⟩ : Addr).add j) = some u := by
  intro j u hj
  match j, hj with
  | 0, hj => simp at hj; subst hj; simp [Addr.add]
  | 1, hj => simp at hj; subst hj; simp [Addr.add]
  | 2, hj => simp at hj; subst hj; simp [Addr.add]
theorem one_three : ∀ u ∈ ([.int .i64 4, .slice none 0 0, .slice none 0 0] : List Value), u.oneCell' = true := by
  intro u hu
  simp at hu
  rcases hu with rfl | rfl <;> rfl
def InsPost (w : World) (e : Ending) (w' : World) : Prop := ∃ v, e = .returned v ∧ w'.ownsRow w.heap.size 68 3 v 1 [.int .i64 4, .slice none 0 0, .slice none 0 0] ∧ Below w.heap.size w w'
set_option maxRecDepth 100000 in
set_option maxHeartbeats 1000000 in
theorem insert_nil (w : World) : Calls Try.prog 58 #[.slice none 0 0, .int .i64 0, .slice (some ⟨w.heap.size, 0, none⟩) 1 1] (w.alloc (.cells #[.int .i64 4, .slice none 0 0, .slice none 0 0] 68)) (InsPost w) := by
  obtain ⟨i0, hi, jz0, jz1, jz2⟩ := info_parts infoR
  go_enter Try.func58, Try.ntmps58
  go_wp2_with (at_builtin; refine wpList_append_own _ rfl _ _ 62 rfl w.heap.size 68 i0 _ 3 56 Try.underlying62 hi jz0 jz1 jz2 rfl (by omega) (.slice none 0 0) 0 [] rfl (World.ownsRow_nil _ _ _ _) ⟨w.heap.size, 0, none⟩ 1 1 [.int .i64 4, .slice none 0 0, .slice none 0 0] rfl rfl (cell_three_new _ _ _ _ _) one_three (by simp [maxLen]) (by omega) (by simp) ?_; intro v1 w1 hown hgrow _; simp only [Nat.zero_add, List.nil_append] at hown)
  go_ret
  exact ⟨v1, rfl, hown, ((Below.refl _ _).alloc (Nat.le_refl _) _).grown hgrow (by simp) (by simp [Value.ownBlock])⟩
set_option maxRecDepth 100000 in
set_option maxHeartbeats 1000000 in
theorem none_watch (f t num : Int) (s : ByteArray) (k2 m2 : Int) (s2 : ByteArray) (A2 : Option Addr) (n2 c2 : Nat) (w : World)  :
    Calls Try.prog 31 #[.agg #[.int .i64 3, .int .i64 f, .int .i64 t, .int .i64 num, .string s, .int .i64 k2, .int .i64 m2, .string s2, .slice A2 n2 c2]] w fun e w' => e = .returned (.tuple #[.agg #[.int .i64 2, .int .i64 t, .int .i64 f, .int .i64 2, .string ⟨#[]⟩, .int .i64 0, .int .i64 0, .string ⟨#[]⟩, .slice none 0 0], .bool true]) ∧ Below w.heap.size w w' := by
  go_enter Try.func31, Try.ntmps31
  go_wp2_with fail
  exact bodyPost_ret (v := .tuple #[.agg #[.int .i64 2, .int .i64 t, .int .i64 f, .int .i64 2, .string ⟨#[]⟩, .int .i64 0, .int .i64 0, .string ⟨#[]⟩, .slice none 0 0], .bool true]) (by simp [results, Try.results31, go_sem]) rfl ⟨rfl, ((Below.refl _ _).alloc (Nat.le_refl _) _).alloc (by simp) _⟩
set_option maxRecDepth 100000 in
set_option maxHeartbeats 1000000 in
theorem none_link (f t num : Int) (s : ByteArray) (k2 m2 : Int) (s2 : ByteArray) (A2 : Option Addr) (n2 c2 : Nat) (w : World)  :
    Calls Try.prog 31 #[.agg #[.int .i64 4, .int .i64 f, .int .i64 t, .int .i64 num, .string s, .int .i64 k2, .int .i64 m2, .string s2, .slice A2 n2 c2]] w fun e w' => e = .returned (.tuple #[.agg #[.int .i64 5, .int .i64 t, .int .i64 f, .int .i64 0, .string ⟨#[110, 111, 110, 101]⟩, .int .i64 0, .int .i64 0, .string ⟨#[]⟩, .slice none 0 0], .bool true]) ∧ Below w.heap.size w w' := by
  go_enter Try.func31, Try.ntmps31
  go_wp2_with fail
  exact bodyPost_ret (v := .tuple #[.agg #[.int .i64 5, .int .i64 t, .int .i64 f, .int .i64 0, .string ⟨#[110, 111, 110, 101]⟩, .int .i64 0, .int .i64 0, .string ⟨#[]⟩, .slice none 0 0], .bool true]) (by simp [results, Try.results31, go_sem]) rfl ⟨rfl, ((Below.refl _ _).alloc (Nat.le_refl _) _).alloc (by simp) _⟩
set_option maxRecDepth 100000 in
set_option maxHeartbeats 1000000 in
theorem none_other (k f t num : Int) (s : ByteArray) (k2 m2 : Int) (s2 : ByteArray) (A2 : Option Addr) (n2 c2 : Nat) (w : World) (h3 : (k == 3) = false) (h4 : (k == 4) = false) :
    Calls Try.prog 31 #[.agg #[.int .i64 k, .int .i64 f, .int .i64 t, .int .i64 num, .string s, .int .i64 k2, .int .i64 m2, .string s2, .slice A2 n2 c2]] w fun e w' => e = .returned (.tuple #[.agg #[.int .i64 0, .int .i64 0, .int .i64 0, .int .i64 0, .string ⟨#[]⟩, .int .i64 0, .int .i64 0, .string ⟨#[]⟩, .slice none 0 0], .bool false]) ∧ Below w.heap.size w w' := by
  go_enter Try.func31, Try.ntmps31
  go_wp2_with fail
  exact bodyPost_ret (v := .tuple #[.agg #[.int .i64 0, .int .i64 0, .int .i64 0, .int .i64 0, .string ⟨#[]⟩, .int .i64 0, .int .i64 0, .string ⟨#[]⟩, .slice none 0 0], .bool false]) (by simp [results, Try.results31, go_sem]) rfl ⟨rfl, ((Below.refl _ _).alloc (Nat.le_refl _) _).alloc (by simp) _⟩
def AddPost (w : World) (e : Ending) (w' : World) : Prop := ∃ v, e = .returned (.tuple #[v, .int .i64 0]) ∧ w'.ownsRow w.heap.size 68 3 v 1 [.int .i64 4, .slice none 0 0, .slice none 0 0] ∧ Below w.heap.size w w'
set_option maxRecDepth 100000 in
set_option maxHeartbeats 1000000 in
theorem add_nil (w : World) : Calls Try.prog 44 #[.slice none 0 0, .int .i64 4] w (AddPost w) := by
  go_enter Try.func44, Try.ntmps44
  go_wp2_with fail
  refine (linkCheck_nil _).mono ?_
  rintro e w' ⟨rfl, rfl⟩
  go_wp2_with fail
  refine wp_loop_rounds 1 ?_
  rw [rounds_succ]
  go_wp2_with fail
  refine (copyOf_nil _).mono ?_
  rintro e w' ⟨rfl, rfl⟩
  go_wp2_with fail
  refine (insert_nil _).mono ?_
  rintro e w1 ⟨v, rfl, hown, hb⟩
  go_wp2_with fail
  go_ret2
  exact ⟨v, rfl, hown, hb⟩
set_option maxRecDepth 100000 in
set_option maxHeartbeats 1000000 in
theorem links_any (w : World) : Calls Try.prog 32 #[] w fun e w' => e = .returned (.bool true) ∧ Below w.heap.size w w' := by
  go_enter Try.func32, Try.ntmps32
  go_wp2_with fail
  refine (add_nil _).mono ?_
  rintro e w1 ⟨v, rfl, hown, hb⟩
  obtain ⟨g, cap, rfl, hbase, hlt, hnc, hcm⟩ := own_form hown (by omega)
  have c0 : w1.cell? ⟨g, 0, none⟩ = some (.int .i64 4) := by rw [hown.cellAt _ (by omega)]; rfl
  clear hown
  go_wp2_with fail
  go_ret
  exact ⟨rfl, hb⟩
set_option maxRecDepth 100000 in
set_option maxHeartbeats 2000000 in
theorem linkNone_watch (f t num : Int) (s : ByteArray) (k2 m2 : Int) (s2 : ByteArray) (A2 : Option Addr) (n2 c2 : Nat) (w : World)  :
    Calls Try.prog 9 #[.agg #[.int .i64 3, .int .i64 f, .int .i64 t, .int .i64 num, .string s, .int .i64 k2, .int .i64 m2, .string s2, .slice A2 n2 c2]] w fun e w' => e = .returned (.bool true) ∧ Below w.heap.size w w' := by
  go_enter Try.func9, Try.ntmps9
  go_wp2_with fail
  refine (none_watch _ _ _ _ _ _ _ _ _ _ _).mono ?_
  rintro e w1 ⟨rfl, hb1⟩
  have hz1 : w.heap.size + 1 ≤ w1.heap.size := by have := hb1.size; simp at this; omega
  have p0 : w1.cell? ⟨w.heap.size, 0, none⟩ = some (.int .i64 3) := ((bcell hb1).1 _ _ (by simp)).trans (by simp)
  have p1 : w1.cell? ⟨w.heap.size, 1, none⟩ = some (.int .i64 f) := ((bcell hb1).1 _ _ (by simp)).trans (by simp)
  have p2 : w1.cell? ⟨w.heap.size, 2, none⟩ = some (.int .i64 t) := ((bcell hb1).1 _ _ (by simp)).trans (by simp)
  have p3 : w1.cell? ⟨w.heap.size, 3, none⟩ = some (.int .i64 num) := ((bcell hb1).1 _ _ (by simp)).trans (by simp)
  have p4 : w1.cell? ⟨w.heap.size, 4, none⟩ = some (.string s) := ((bcell hb1).1 _ _ (by simp)).trans (by simp)
  have p5 : w1.cell? ⟨w.heap.size, 5, none⟩ = some (.int .i64 k2) := ((bcell hb1).1 _ _ (by simp)).trans (by simp)
  have p6 : w1.cell? ⟨w.heap.size, 6, none⟩ = some (.int .i64 m2) := ((bcell hb1).1 _ _ (by simp)).trans (by simp)
  have p7 : w1.cell? ⟨w.heap.size, 7, none⟩ = some (.string s2) := ((bcell hb1).1 _ _ (by simp)).trans (by simp)
  have p8 : w1.cell? ⟨w.heap.size, 8, none⟩ = some (.slice A2 n2 c2) := ((bcell hb1).1 _ _ (by simp)).trans (by simp)
  have HB1 := Lib.hid (((Below.refl w.heap.size w).alloc (Nat.le_refl _) _).trans (hb1.mono (by simp)))
  have hz1a : w.heap.size < w1.heap.size := by omega
  clear hb1
  go_wp2_with fail
  refine (links_any _).mono ?_
  rintro e w2 ⟨rfl, hb2⟩
  have hz2 : w1.heap.size + 1 ≤ w2.heap.size := by have := hb2.size; simp at this; omega
  have q0 : w2.cell? ⟨w.heap.size, 0, none⟩ = some (.int .i64 3) := ((bcell hb2).1 _ _ (by simp; omega)).trans ((World.cell?_alloc_lt _ _ _ hz1a).trans p0)
  have q1 : w2.cell? ⟨w.heap.size, 1, none⟩ = some (.int .i64 f) := ((bcell hb2).1 _ _ (by simp; omega)).trans ((World.cell?_alloc_lt _ _ _ hz1a).trans p1)
  have q2 : w2.cell? ⟨w.heap.size, 2, none⟩ = some (.int .i64 t) := ((bcell hb2).1 _ _ (by simp; omega)).trans ((World.cell?_alloc_lt _ _ _ hz1a).trans p2)
  have q3 : w2.cell? ⟨w.heap.size, 3, none⟩ = some (.int .i64 num) := ((bcell hb2).1 _ _ (by simp; omega)).trans ((World.cell?_alloc_lt _ _ _ hz1a).trans p3)
  have q4 : w2.cell? ⟨w.heap.size, 4, none⟩ = some (.string s) := ((bcell hb2).1 _ _ (by simp; omega)).trans ((World.cell?_alloc_lt _ _ _ hz1a).trans p4)
  have q5 : w2.cell? ⟨w.heap.size, 5, none⟩ = some (.int .i64 k2) := ((bcell hb2).1 _ _ (by simp; omega)).trans ((World.cell?_alloc_lt _ _ _ hz1a).trans p5)
  have q6 : w2.cell? ⟨w.heap.size, 6, none⟩ = some (.int .i64 m2) := ((bcell hb2).1 _ _ (by simp; omega)).trans ((World.cell?_alloc_lt _ _ _ hz1a).trans p6)
  have q7 : w2.cell? ⟨w.heap.size, 7, none⟩ = some (.string s2) := ((bcell hb2).1 _ _ (by simp; omega)).trans ((World.cell?_alloc_lt _ _ _ hz1a).trans p7)
  have q8 : w2.cell? ⟨w.heap.size, 8, none⟩ = some (.slice A2 n2 c2) := ((bcell hb2).1 _ _ (by simp; omega)).trans ((World.cell?_alloc_lt _ _ _ hz1a).trans p8)
  have r0 : w2.cell? ⟨w1.heap.size, 0, none⟩ = some (.int .i64 2) := ((bcell hb2).1 _ _ (by simp)).trans (by simp)
  have r1 : w2.cell? ⟨w1.heap.size, 1, none⟩ = some (.int .i64 t) := ((bcell hb2).1 _ _ (by simp)).trans (by simp)
  have r2 : w2.cell? ⟨w1.heap.size, 2, none⟩ = some (.int .i64 f) := ((bcell hb2).1 _ _ (by simp)).trans (by simp)
  have r3 : w2.cell? ⟨w1.heap.size, 3, none⟩ = some (.int .i64 2) := ((bcell hb2).1 _ _ (by simp)).trans (by simp)
  have r4 : w2.cell? ⟨w1.heap.size, 4, none⟩ = some (.string ⟨#[]⟩) := ((bcell hb2).1 _ _ (by simp)).trans (by simp)
  have r5 : w2.cell? ⟨w1.heap.size, 5, none⟩ = some (.int .i64 0) := ((bcell hb2).1 _ _ (by simp)).trans (by simp)
  have r6 : w2.cell? ⟨w1.heap.size, 6, none⟩ = some (.int .i64 0) := ((bcell hb2).1 _ _ (by simp)).trans (by simp)
  have r7 : w2.cell? ⟨w1.heap.size, 7, none⟩ = some (.string ⟨#[]⟩) := ((bcell hb2).1 _ _ (by simp)).trans (by simp)
  have r8 : w2.cell? ⟨w1.heap.size, 8, none⟩ = some (.slice none 0 0) := ((bcell hb2).1 _ _ (by simp)).trans (by simp)
  have HB2 := Lib.hid ((HB1.out.alloc (by omega) _).trans (hb2.mono (by simp; omega)))
  have hz2a : w.heap.size < w2.heap.size := by omega
  have hz2b : w1.heap.size < w2.heap.size := by omega
  clear hb2 p0 p1 p2 p3 p4 p5 p6 p7 p8
  go_wp2_with fail
  refine (none_other _ _ _ _ _ _ _ _ _ _ _ _ rfl rfl).mono ?_
  rintro e w3 ⟨rfl, hb3⟩
  have u0 : w3.cell? ⟨w.heap.size, 0, none⟩ = some (.int .i64 3) := ((bcell hb3).1 _ _ hz2a).trans q0
  have u1 : w3.cell? ⟨w.heap.size, 1, none⟩ = some (.int .i64 f) := ((bcell hb3).1 _ _ hz2a).trans q1
  have u2 : w3.cell? ⟨w.heap.size, 2, none⟩ = some (.int .i64 t) := ((bcell hb3).1 _ _ hz2a).trans q2
  have u3 : w3.cell? ⟨w.heap.size, 3, none⟩ = some (.int .i64 num) := ((bcell hb3).1 _ _ hz2a).trans q3
  have u4 : w3.cell? ⟨w.heap.size, 4, none⟩ = some (.string s) := ((bcell hb3).1 _ _ hz2a).trans q4
  have u5 : w3.cell? ⟨w.heap.size, 5, none⟩ = some (.int .i64 k2) := ((bcell hb3).1 _ _ hz2a).trans q5
  have u6 : w3.cell? ⟨w.heap.size, 6, none⟩ = some (.int .i64 m2) := ((bcell hb3).1 _ _ hz2a).trans q6
  have u7 : w3.cell? ⟨w.heap.size, 7, none⟩ = some (.string s2) := ((bcell hb3).1 _ _ hz2a).trans q7
  have u8 : w3.cell? ⟨w.heap.size, 8, none⟩ = some (.slice A2 n2 c2) := ((bcell hb3).1 _ _ hz2a).trans q8
  have v0 : w3.cell? ⟨w1.heap.size, 0, none⟩ = some (.int .i64 2) := ((bcell hb3).1 _ _ hz2b).trans r0
  have v1 : w3.cell? ⟨w1.heap.size, 1, none⟩ = some (.int .i64 t) := ((bcell hb3).1 _ _ hz2b).trans r1
  have v2 : w3.cell? ⟨w1.heap.size, 2, none⟩ = some (.int .i64 f) := ((bcell hb3).1 _ _ hz2b).trans r2
  have v3 : w3.cell? ⟨w1.heap.size, 3, none⟩ = some (.int .i64 2) := ((bcell hb3).1 _ _ hz2b).trans r3
  have v4 : w3.cell? ⟨w1.heap.size, 4, none⟩ = some (.string ⟨#[]⟩) := ((bcell hb3).1 _ _ hz2b).trans r4
  have v5 : w3.cell? ⟨w1.heap.size, 5, none⟩ = some (.int .i64 0) := ((bcell hb3).1 _ _ hz2b).trans r5
  have v6 : w3.cell? ⟨w1.heap.size, 6, none⟩ = some (.int .i64 0) := ((bcell hb3).1 _ _ hz2b).trans r6
  have v7 : w3.cell? ⟨w1.heap.size, 7, none⟩ = some (.string ⟨#[]⟩) := ((bcell hb3).1 _ _ hz2b).trans r7
  have v8 : w3.cell? ⟨w1.heap.size, 8, none⟩ = some (.slice none 0 0) := ((bcell hb3).1 _ _ hz2b).trans r8
  have HB3 := Lib.hid (HB2.out.trans (hb3.mono (by omega)))
  have hz3 := hb3.size
  have hz3a : w.heap.size < w3.heap.size := by omega
  have hz3b : w1.heap.size < w3.heap.size := by omega
  clear hb3 q0 r0 q1 r1 q2 r2 q3 r3 q4 r4 q5 r5 q6 r6 q7 r7 q8 r8
  go_wp2_with fail
  go_ret
  exact ⟨rfl, HB3.out.alloc (by omega) _⟩
set_option maxRecDepth 100000 in
set_option maxHeartbeats 2000000 in
theorem linkNone_link (f t num : Int) (s : ByteArray) (k2 m2 : Int) (s2 : ByteArray) (A2 : Option Addr) (n2 c2 : Nat) (w : World)  :
    Calls Try.prog 9 #[.agg #[.int .i64 4, .int .i64 f, .int .i64 t, .int .i64 num, .string s, .int .i64 k2, .int .i64 m2, .string s2, .slice A2 n2 c2]] w fun e w' => e = .returned (.bool true) ∧ Below w.heap.size w w' := by
  go_enter Try.func9, Try.ntmps9
  go_wp2_with fail
  refine (none_link _ _ _ _ _ _ _ _ _ _ _).mono ?_
  rintro e w1 ⟨rfl, hb1⟩
  have hz1 : w.heap.size + 1 ≤ w1.heap.size := by have := hb1.size; simp at this; omega
  have p0 : w1.cell? ⟨w.heap.size, 0, none⟩ = some (.int .i64 4) := ((bcell hb1).1 _ _ (by simp)).trans (by simp)
  have p1 : w1.cell? ⟨w.heap.size, 1, none⟩ = some (.int .i64 f) := ((bcell hb1).1 _ _ (by simp)).trans (by simp)
  have p2 : w1.cell? ⟨w.heap.size, 2, none⟩ = some (.int .i64 t) := ((bcell hb1).1 _ _ (by simp)).trans (by simp)
  have p3 : w1.cell? ⟨w.heap.size, 3, none⟩ = some (.int .i64 num) := ((bcell hb1).1 _ _ (by simp)).trans (by simp)
  have p4 : w1.cell? ⟨w.heap.size, 4, none⟩ = some (.string s) := ((bcell hb1).1 _ _ (by simp)).trans (by simp)
  have p5 : w1.cell? ⟨w.heap.size, 5, none⟩ = some (.int .i64 k2) := ((bcell hb1).1 _ _ (by simp)).trans (by simp)
  have p6 : w1.cell? ⟨w.heap.size, 6, none⟩ = some (.int .i64 m2) := ((bcell hb1).1 _ _ (by simp)).trans (by simp)
  have p7 : w1.cell? ⟨w.heap.size, 7, none⟩ = some (.string s2) := ((bcell hb1).1 _ _ (by simp)).trans (by simp)
  have p8 : w1.cell? ⟨w.heap.size, 8, none⟩ = some (.slice A2 n2 c2) := ((bcell hb1).1 _ _ (by simp)).trans (by simp)
  have HB1 := Lib.hid (((Below.refl w.heap.size w).alloc (Nat.le_refl _) _).trans (hb1.mono (by simp)))
  have hz1a : w.heap.size < w1.heap.size := by omega
  clear hb1
  go_wp2_with fail
  refine (links_any _).mono ?_
  rintro e w2 ⟨rfl, hb2⟩
  have hz2 : w1.heap.size + 1 ≤ w2.heap.size := by have := hb2.size; simp at this; omega
  have q0 : w2.cell? ⟨w.heap.size, 0, none⟩ = some (.int .i64 4) := ((bcell hb2).1 _ _ (by simp; omega)).trans ((World.cell?_alloc_lt _ _ _ hz1a).trans p0)
  have q1 : w2.cell? ⟨w.heap.size, 1, none⟩ = some (.int .i64 f) := ((bcell hb2).1 _ _ (by simp; omega)).trans ((World.cell?_alloc_lt _ _ _ hz1a).trans p1)
  have q2 : w2.cell? ⟨w.heap.size, 2, none⟩ = some (.int .i64 t) := ((bcell hb2).1 _ _ (by simp; omega)).trans ((World.cell?_alloc_lt _ _ _ hz1a).trans p2)
  have q3 : w2.cell? ⟨w.heap.size, 3, none⟩ = some (.int .i64 num) := ((bcell hb2).1 _ _ (by simp; omega)).trans ((World.cell?_alloc_lt _ _ _ hz1a).trans p3)
  have q4 : w2.cell? ⟨w.heap.size, 4, none⟩ = some (.string s) := ((bcell hb2).1 _ _ (by simp; omega)).trans ((World.cell?_alloc_lt _ _ _ hz1a).trans p4)
  have q5 : w2.cell? ⟨w.heap.size, 5, none⟩ = some (.int .i64 k2) := ((bcell hb2).1 _ _ (by simp; omega)).trans ((World.cell?_alloc_lt _ _ _ hz1a).trans p5)
  have q6 : w2.cell? ⟨w.heap.size, 6, none⟩ = some (.int .i64 m2) := ((bcell hb2).1 _ _ (by simp; omega)).trans ((World.cell?_alloc_lt _ _ _ hz1a).trans p6)
  have q7 : w2.cell? ⟨w.heap.size, 7, none⟩ = some (.string s2) := ((bcell hb2).1 _ _ (by simp; omega)).trans ((World.cell?_alloc_lt _ _ _ hz1a).trans p7)
  have q8 : w2.cell? ⟨w.heap.size, 8, none⟩ = some (.slice A2 n2 c2) := ((bcell hb2).1 _ _ (by simp; omega)).trans ((World.cell?_alloc_lt _ _ _ hz1a).trans p8)
  have r0 : w2.cell? ⟨w1.heap.size, 0, none⟩ = some (.int .i64 5) := ((bcell hb2).1 _ _ (by simp)).trans (by simp)
  have r1 : w2.cell? ⟨w1.heap.size, 1, none⟩ = some (.int .i64 t) := ((bcell hb2).1 _ _ (by simp)).trans (by simp)
  have r2 : w2.cell? ⟨w1.heap.size, 2, none⟩ = some (.int .i64 f) := ((bcell hb2).1 _ _ (by simp)).trans (by simp)
  have r3 : w2.cell? ⟨w1.heap.size, 3, none⟩ = some (.int .i64 0) := ((bcell hb2).1 _ _ (by simp)).trans (by simp)
  have r4 : w2.cell? ⟨w1.heap.size, 4, none⟩ = some (.string ⟨#[110, 111, 110, 101]⟩) := ((bcell hb2).1 _ _ (by simp)).trans (by simp)
  have r5 : w2.cell? ⟨w1.heap.size, 5, none⟩ = some (.int .i64 0) := ((bcell hb2).1 _ _ (by simp)).trans (by simp)
  have r6 : w2.cell? ⟨w1.heap.size, 6, none⟩ = some (.int .i64 0) := ((bcell hb2).1 _ _ (by simp)).trans (by simp)
  have r7 : w2.cell? ⟨w1.heap.size, 7, none⟩ = some (.string ⟨#[]⟩) := ((bcell hb2).1 _ _ (by simp)).trans (by simp)
  have r8 : w2.cell? ⟨w1.heap.size, 8, none⟩ = some (.slice none 0 0) := ((bcell hb2).1 _ _ (by simp)).trans (by simp)
  have HB2 := Lib.hid ((HB1.out.alloc (by omega) _).trans (hb2.mono (by simp; omega)))
  have hz2a : w.heap.size < w2.heap.size := by omega
  have hz2b : w1.heap.size < w2.heap.size := by omega
  clear hb2 p0 p1 p2 p3 p4 p5 p6 p7 p8
  go_wp2_with fail
  refine (none_other _ _ _ _ _ _ _ _ _ _ _ _ rfl rfl).mono ?_
  rintro e w3 ⟨rfl, hb3⟩
  have u0 : w3.cell? ⟨w.heap.size, 0, none⟩ = some (.int .i64 4) := ((bcell hb3).1 _ _ hz2a).trans q0
  have u1 : w3.cell? ⟨w.heap.size, 1, none⟩ = some (.int .i64 f) := ((bcell hb3).1 _ _ hz2a).trans q1
  have u2 : w3.cell? ⟨w.heap.size, 2, none⟩ = some (.int .i64 t) := ((bcell hb3).1 _ _ hz2a).trans q2
  have u3 : w3.cell? ⟨w.heap.size, 3, none⟩ = some (.int .i64 num) := ((bcell hb3).1 _ _ hz2a).trans q3
  have u4 : w3.cell? ⟨w.heap.size, 4, none⟩ = some (.string s) := ((bcell hb3).1 _ _ hz2a).trans q4
  have u5 : w3.cell? ⟨w.heap.size, 5, none⟩ = some (.int .i64 k2) := ((bcell hb3).1 _ _ hz2a).trans q5
  have u6 : w3.cell? ⟨w.heap.size, 6, none⟩ = some (.int .i64 m2) := ((bcell hb3).1 _ _ hz2a).trans q6
  have u7 : w3.cell? ⟨w.heap.size, 7, none⟩ = some (.string s2) := ((bcell hb3).1 _ _ hz2a).trans q7
  have u8 : w3.cell? ⟨w.heap.size, 8, none⟩ = some (.slice A2 n2 c2) := ((bcell hb3).1 _ _ hz2a).trans q8
  have v0 : w3.cell? ⟨w1.heap.size, 0, none⟩ = some (.int .i64 5) := ((bcell hb3).1 _ _ hz2b).trans r0
  have v1 : w3.cell? ⟨w1.heap.size, 1, none⟩ = some (.int .i64 t) := ((bcell hb3).1 _ _ hz2b).trans r1
  have v2 : w3.cell? ⟨w1.heap.size, 2, none⟩ = some (.int .i64 f) := ((bcell hb3).1 _ _ hz2b).trans r2
  have v3 : w3.cell? ⟨w1.heap.size, 3, none⟩ = some (.int .i64 0) := ((bcell hb3).1 _ _ hz2b).trans r3
  have v4 : w3.cell? ⟨w1.heap.size, 4, none⟩ = some (.string ⟨#[110, 111, 110, 101]⟩) := ((bcell hb3).1 _ _ hz2b).trans r4
  have v5 : w3.cell? ⟨w1.heap.size, 5, none⟩ = some (.int .i64 0) := ((bcell hb3).1 _ _ hz2b).trans r5
  have v6 : w3.cell? ⟨w1.heap.size, 6, none⟩ = some (.int .i64 0) := ((bcell hb3).1 _ _ hz2b).trans r6
  have v7 : w3.cell? ⟨w1.heap.size, 7, none⟩ = some (.string ⟨#[]⟩) := ((bcell hb3).1 _ _ hz2b).trans r7
  have v8 : w3.cell? ⟨w1.heap.size, 8, none⟩ = some (.slice none 0 0) := ((bcell hb3).1 _ _ hz2b).trans r8
  have HB3 := Lib.hid (HB2.out.trans (hb3.mono (by omega)))
  have hz3 := hb3.size
  have hz3a : w.heap.size < w3.heap.size := by omega
  have hz3b : w1.heap.size < w3.heap.size := by omega
  clear hb3 q0 r0 q1 r1 q2 r2 q3 r3 q4 r4 q5 r5 q6 r6 q7 r7 q8 r8
  go_wp2_with fail
  go_ret
  exact ⟨rfl, HB3.out.alloc (by omega) _⟩
set_option maxRecDepth 100000 in
set_option maxHeartbeats 2000000 in
theorem linkNone_other (k f t num : Int) (s : ByteArray) (k2 m2 : Int) (s2 : ByteArray) (A2 : Option Addr) (n2 c2 : Nat) (w : World) (h3 : (k == 3) = false) (h4 : (k == 4) = false) :
    Calls Try.prog 9 #[.agg #[.int .i64 k, .int .i64 f, .int .i64 t, .int .i64 num, .string s, .int .i64 k2, .int .i64 m2, .string s2, .slice A2 n2 c2]] w fun e w' => e = .returned (.bool true) ∧ Below w.heap.size w w' := by
  have n3 : (k != 3) = true := by simpa using h3
  have n4 : (k != 4) = true := by simpa using h4
  go_enter Try.func9, Try.ntmps9
  go_wp2_with fail
  refine (none_other _ _ _ _ _ _ _ _ _ _ _ _ h3 h4).mono ?_
  rintro e w1 ⟨rfl, hb1⟩
  have hz1 : w.heap.size + 1 ≤ w1.heap.size := by have := hb1.size; simp at this; omega
  have p0 : w1.cell? ⟨w.heap.size, 0, none⟩ = some (.int .i64 k) := ((bcell hb1).1 _ _ (by simp)).trans (by simp)
  have p1 : w1.cell? ⟨w.heap.size, 1, none⟩ = some (.int .i64 f) := ((bcell hb1).1 _ _ (by simp)).trans (by simp)
  have p2 : w1.cell? ⟨w.heap.size, 2, none⟩ = some (.int .i64 t) := ((bcell hb1).1 _ _ (by simp)).trans (by simp)
  have p3 : w1.cell? ⟨w.heap.size, 3, none⟩ = some (.int .i64 num) := ((bcell hb1).1 _ _ (by simp)).trans (by simp)
  have p4 : w1.cell? ⟨w.heap.size, 4, none⟩ = some (.string s) := ((bcell hb1).1 _ _ (by simp)).trans (by simp)
  have p5 : w1.cell? ⟨w.heap.size, 5, none⟩ = some (.int .i64 k2) := ((bcell hb1).1 _ _ (by simp)).trans (by simp)
  have p6 : w1.cell? ⟨w.heap.size, 6, none⟩ = some (.int .i64 m2) := ((bcell hb1).1 _ _ (by simp)).trans (by simp)
  have p7 : w1.cell? ⟨w.heap.size, 7, none⟩ = some (.string s2) := ((bcell hb1).1 _ _ (by simp)).trans (by simp)
  have p8 : w1.cell? ⟨w.heap.size, 8, none⟩ = some (.slice A2 n2 c2) := ((bcell hb1).1 _ _ (by simp)).trans (by simp)
  have HB1 := Lib.hid (((Below.refl w.heap.size w).alloc (Nat.le_refl _) _).trans (hb1.mono (by simp)))
  have hz1a : w.heap.size < w1.heap.size := by omega
  clear hb1
  go_wp2_with fail
  refine (links_any _).mono ?_
  rintro e w2 ⟨rfl, hb2⟩
  have hz2 : w1.heap.size + 1 ≤ w2.heap.size := by have := hb2.size; simp at this; omega
  have q0 : w2.cell? ⟨w.heap.size, 0, none⟩ = some (.int .i64 k) := ((bcell hb2).1 _ _ (by simp; omega)).trans ((World.cell?_alloc_lt _ _ _ hz1a).trans p0)
  have q1 : w2.cell? ⟨w.heap.size, 1, none⟩ = some (.int .i64 f) := ((bcell hb2).1 _ _ (by simp; omega)).trans ((World.cell?_alloc_lt _ _ _ hz1a).trans p1)
  have q2 : w2.cell? ⟨w.heap.size, 2, none⟩ = some (.int .i64 t) := ((bcell hb2).1 _ _ (by simp; omega)).trans ((World.cell?_alloc_lt _ _ _ hz1a).trans p2)
  have q3 : w2.cell? ⟨w.heap.size, 3, none⟩ = some (.int .i64 num) := ((bcell hb2).1 _ _ (by simp; omega)).trans ((World.cell?_alloc_lt _ _ _ hz1a).trans p3)
  have q4 : w2.cell? ⟨w.heap.size, 4, none⟩ = some (.string s) := ((bcell hb2).1 _ _ (by simp; omega)).trans ((World.cell?_alloc_lt _ _ _ hz1a).trans p4)
  have q5 : w2.cell? ⟨w.heap.size, 5, none⟩ = some (.int .i64 k2) := ((bcell hb2).1 _ _ (by simp; omega)).trans ((World.cell?_alloc_lt _ _ _ hz1a).trans p5)
  have q6 : w2.cell? ⟨w.heap.size, 6, none⟩ = some (.int .i64 m2) := ((bcell hb2).1 _ _ (by simp; omega)).trans ((World.cell?_alloc_lt _ _ _ hz1a).trans p6)
  have q7 : w2.cell? ⟨w.heap.size, 7, none⟩ = some (.string s2) := ((bcell hb2).1 _ _ (by simp; omega)).trans ((World.cell?_alloc_lt _ _ _ hz1a).trans p7)
  have q8 : w2.cell? ⟨w.heap.size, 8, none⟩ = some (.slice A2 n2 c2) := ((bcell hb2).1 _ _ (by simp; omega)).trans ((World.cell?_alloc_lt _ _ _ hz1a).trans p8)
  have r0 : w2.cell? ⟨w1.heap.size, 0, none⟩ = some (.int .i64 0) := ((bcell hb2).1 _ _ (by simp)).trans (by simp)
  have r1 : w2.cell? ⟨w1.heap.size, 1, none⟩ = some (.int .i64 0) := ((bcell hb2).1 _ _ (by simp)).trans (by simp)
  have r2 : w2.cell? ⟨w1.heap.size, 2, none⟩ = some (.int .i64 0) := ((bcell hb2).1 _ _ (by simp)).trans (by simp)
  have r3 : w2.cell? ⟨w1.heap.size, 3, none⟩ = some (.int .i64 0) := ((bcell hb2).1 _ _ (by simp)).trans (by simp)
  have r4 : w2.cell? ⟨w1.heap.size, 4, none⟩ = some (.string ⟨#[]⟩) := ((bcell hb2).1 _ _ (by simp)).trans (by simp)
  have r5 : w2.cell? ⟨w1.heap.size, 5, none⟩ = some (.int .i64 0) := ((bcell hb2).1 _ _ (by simp)).trans (by simp)
  have r6 : w2.cell? ⟨w1.heap.size, 6, none⟩ = some (.int .i64 0) := ((bcell hb2).1 _ _ (by simp)).trans (by simp)
  have r7 : w2.cell? ⟨w1.heap.size, 7, none⟩ = some (.string ⟨#[]⟩) := ((bcell hb2).1 _ _ (by simp)).trans (by simp)
  have r8 : w2.cell? ⟨w1.heap.size, 8, none⟩ = some (.slice none 0 0) := ((bcell hb2).1 _ _ (by simp)).trans (by simp)
  have HB2 := Lib.hid ((HB1.out.alloc (by omega) _).trans (hb2.mono (by simp; omega)))
  have hz2a : w.heap.size < w2.heap.size := by omega
  have hz2b : w1.heap.size < w2.heap.size := by omega
  clear hb2 p0 p1 p2 p3 p4 p5 p6 p7 p8
  go_wp2_with fail
  refine (links_any _).mono ?_
  rintro e w3 ⟨rfl, hb3⟩
  have x0 : w3.cell? ⟨w.heap.size, 0, none⟩ = some (.int .i64 k) := ((bcell hb3).1 _ _ hz2a).trans q0
  go_wp2_with fail
  go_ret
  exact ⟨rfl, HB2.out.trans (hb3.mono (by omega))⟩
section
variable {H : Type} {enc : TypeId × Value → H} {W : World} {held : Bool}
theorem field_eq {P : Program} {n t o o' z z' : Nat} {cs : List Value} {r : Option (DataW H × List MemPlace)} (h : DataW.trod enc P W 0 (fun _ => true) held n t ((cs.drop o).take z) = r) (ho : o = o') (hz : z = z') : DataW.trod enc P W 0 (fun _ => true) held n t ((cs.drop o').take z') = r := by
  subst ho hz; exact h
set_option maxRecDepth 100000 in
theorem open_letter {fuel : Nat} {cs : List Value} {x : DataW H × List MemPlace} (h : DataW.trod enc Try.prog W 0 (fun _ => true) held fuel 58 cs = some x) :
    ∃ k f t num s k2 m2 s2 A2 n2 c2, cs = [.int .i64 k, .int .i64 f, .int .i64 t, .int .i64 num, .string s, .int .i64 k2, .int .i64 m2, .string s2, .slice A2 n2 c2] := by
  obtain ⟨xs, n, hfu, hx, hlen, hxl, hf⟩ := DataW.trod_struct Try.underlying58 h
  have hl9 : cs.length = 9 := hlen.trans (by kernel_rfl)
  have hx6 : xs.length = 6 := hxl
  match cs, hl9, xs, hx6 with
  | [c0, c1, c2, c3, c4, c5, c6, c7, c8], _, [x0, x1, x2, x3, x4, x5], _ =>
    have h0 := field_eq (hf 0 _ rfl) (o' := 0) (z' := 1) rfl (by kernel_rfl)
    have h1 := field_eq (hf 1 _ rfl) (o' := 1) (z' := 1) rfl (by kernel_rfl)
    have h2 := field_eq (hf 2 _ rfl) (o' := 2) (z' := 1) rfl (by kernel_rfl)
    have h3 := field_eq (hf 3 _ rfl) (o' := 3) (z' := 1) rfl (by kernel_rfl)
    have h4 := field_eq (hf 4 _ rfl) (o' := 4) (z' := 1) rfl (by kernel_rfl)
    have h5 := field_eq (hf 5 _ rfl) (o' := 5) (z' := 4) rfl (by kernel_rfl)
    obtain ⟨z0, e0, _, _⟩ := DataW.trod_int Try.underlying3 h0
    obtain ⟨z1, e1, _, _⟩ := DataW.trod_int Try.underlying3 h1
    obtain ⟨z2, e2, _, _⟩ := DataW.trod_int Try.underlying3 h2
    obtain ⟨z3, e3, _, _⟩ := DataW.trod_int Try.underlying3 h3
    obtain ⟨s4, e4, _, _⟩ := DataW.trod_string Try.underlying9 h4
    have hff := trod_fields Try.underlying56 (by kernel_rfl) h5
    obtain ⟨_, y5, g5⟩ := hff 0 _ c5 rfl rfl
    obtain ⟨_, y6, g6⟩ := hff 1 _ c6 rfl rfl
    obtain ⟨_, y7, g7⟩ := hff 2 _ c7 rfl rfl
    obtain ⟨_, y8, g8⟩ := hff 3 _ c8 rfl rfl
    obtain ⟨z5, e5, _, _⟩ := DataW.trod_int Try.underlying3 g5
    obtain ⟨z6, e6, _, _⟩ := DataW.trod_int Try.underlying3 g6
    obtain ⟨s7, e7, _, _⟩ := DataW.trod_string Try.underlying9 g7
    obtain ⟨a8, l8, d8, e8⟩ := Joins.slice_form Try.underlying54 g8
    simp at e0 e1 e2 e3 e4 e5 e6 e7 e8
    subst e0 e1 e2 e3 e4 e5 e6 e7 e8
    exact ⟨_, _, _, _, _, _, _, _, _, _, _, rfl⟩
end
set_option maxRecDepth 100000 in
theorem linkNone_walk {H : Type} {enc : TypeId × Value → H} (W : World) (base : Nat) (v0 : Value) {d0 : DataW H} {p0 : List MemPlace}
    (k0 : Value.okWide Try.prog W .any base 58 v0) (h0 : DataW.Trod enc Try.prog W 0 (fun _ => true) true 58 v0 d0 p0) :
    Calls Try.prog 9 #[v0] W fun e W' => e = .returned (.bool true) ∧ Below W.heap.size W W' := by
  obtain ⟨⟨cs⟩, rfl, _⟩ := okWide_struct Try.underlying58 k0
  obtain ⟨fuel, hf⟩ := h0
  obtain ⟨k, f, t, num, s, k2, m2, s2, A2, n2, c2, hcs⟩ := open_letter hf
  have hcs' : cs = _ := hcs
  subst hcs'
  by_cases e3 : k = 3
  · subst e3; exact linkNone_watch f t num s k2 m2 s2 A2 n2 c2 W
  by_cases e4 : k = 4
  · subst e4; exact linkNone_link f t num s k2 m2 s2 A2 n2 c2 W
  exact linkNone_other k f t num s k2 m2 s2 A2 n2 c2 W (by simpa using e3) (by simpa using e4)
end Go.Proofs.Ytcjkibjaajbfmaa
