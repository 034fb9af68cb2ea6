/- The operations on a table of names: valid, wins, write, Find, Set, Drop. -/
import Derived.Test.YtmjihhjcgkpmhaaNmMap
import Derived.BigRegion
import Derived.Deep.DeepCutAuto
namespace Go.Proofs.Ytmjihhjcgkpmhaa
open Go.RowKit Go.Maps
set_option linter.unusedVariables false
/-- a registry: its block t, its node, its count, its table's block m -/
structure NmAt (w : World) (t : Nat) (nd cnt : Int) (m : Nat) (g : Nat → Option RW) : Prop where
  c0 : w.cell? ⟨t, 0, none⟩ = some (.int .i64 nd)
  c1 : w.cell? ⟨t, 1, none⟩ = some (.int .i64 cnt)
  c2 : w.cell? ⟨t, 2, none⟩ = some (.map (some m))
  fz : ∀ o, w.frozen? ⟨t, o, none⟩ = false
  ne : t ≠ m
  tab : OwnT w m g
theorem NmAt.fr {S : Nat → Prop} {w w' : World} {t m : Nat} {nd cnt : Int} {g : Nat → Option RW} (h : NmAt w t nd cnt m g) (hf : Fr S w w') (h1 : ¬ S t) (h2 : ¬ S m) : NmAt w' t nd cnt m g :=
  ⟨hf.cell h.c0 h1, hf.cell h.c1 h1, hf.cell h.c2 h1, fun o => (hf.frozen (World.block_lt_of_cell? w _ h.c0) h1).trans (h.fz o), h.ne, h.tab.fr hf h2⟩
theorem NmAt.lt {w : World} {t m : Nat} {nd cnt : Int} {g : Nat → Option RW} (h : NmAt w t nd cnt m g) : t < w.heap.size := World.block_lt_of_cell? w _ h.c0
theorem OwnT.drew {w : World} {b : Nat} {g : Nat → Option RW} (h : OwnT w b g) : OwnT w.drew b g := by
  obtain ⟨D, h1, h2⟩ := h
  exact ⟨D, h1.drew, h2⟩
set_option maxRecDepth 100000 in
set_option maxHeartbeats 4000000 in
theorem valid_any (i : Nat) (hi : i < 4) (w : World) : Calls Try.prog 25 #[.string (nmS i)] w fun e w' => e = .returned (.bool true) ∧ w' = w := by
  have hk : i = 0 ∨ i = 1 ∨ i = 2 ∨ i = 3 := by omega
  obtain ⟨c, s, hs, hc, hix⟩ : ∃ (c : UInt8) (s : ByteArray), nmS i = s ∧ s = ⟨#[c]⟩ ∧ (c = 97 ∨ c = 98 ∨ c = 99 ∨ c = 120) := by
    rcases hk with rfl | rfl | rfl | rfl
    · exact ⟨97, _, rfl, rfl, by simp⟩
    · exact ⟨98, _, rfl, rfl, by simp⟩
    · exact ⟨99, _, rfl, rfl, by simp⟩
    · exact ⟨120, _, rfl, rfl, by simp⟩
  rw [hs, hc]
  clear hs hc hk hi
  have h0 : ∀ w : World, (Instr.index 9 (.string ⟨#[c]⟩) (.int .i64 0)).run Try.prog w = .ok (.int .u8 (c.toNat : Int)) w := fun w => by kernel_rfl
  rcases hix with rfl | rfl | rfl | rfl
  all_goals
    go_enter Try.func25, Try.ntmps25
    go_wp2_with fail
    go_loopw [7] (fun x w1 => ∃ k : Nat, k ≤ 1 ∧ x = .int .i64 (k : Int) ∧ w1 = w) (fun x _ => 1 - (intOf x).toNat)
    case atStart => exact ⟨0, by omega, rfl, rfl⟩
    case round =>
      obtain ⟨k, hk1, rfl, rfl⟩ := hrel
      by_cases hk : k < 1
      · obtain rfl : k = 0 := by omega
        go_wp2_with fail
        exact ⟨⟨1, by omega, rfl, trivial⟩, by simp [intOf]⟩
      · have hd : decide ((k : Int) < 1) = false := decide_eq_false (by omega)
        go_wp2_with fail
        go_ret
        exact ⟨rfl, rfl⟩
def winsB (a b : RW) : Bool := if a.cnt ≠ b.cnt then decide (a.cnt > b.cnt) else if a.node ≠ b.node then decide (a.node > b.node) else decide (a.ref > b.ref)
set_option maxRecDepth 100000 in
set_option maxHeartbeats 4000000 in
theorem wins_any (i j : Nat) (a b : RW) (w : World) : Calls Try.prog 28 #[rwV i a, rwV j b] w fun e w' => e = .returned (.bool (winsB a b)) ∧ Below w.heap.size w w' := by
  obtain ⟨r1, c1, n1⟩ := a
  obtain ⟨r2, c2, n2⟩ := b
  unfold rwV
  dsimp only
  generalize nmS i = s1
  generalize nmS j = s2
  go_enter Try.func28, Try.ntmps28
  go_wp2_with fail
  all_goals
    have hb : Below w.heap.size w ((w.alloc (.cells #[.string s1, .int .i64 r1, .int .i64 c1, .int .i64 n1] 80)).alloc (.cells #[.string s2, .int .i64 r2, .int .i64 c2, .int .i64 n2] 80)) := ((Below.refl _ _).alloc (Nat.le_refl _) _).alloc (by simp) _
    go_ret
    refine ⟨?_, hb⟩
    simp_all [winsB]
set_option maxRecDepth 100000 in
set_option maxHeartbeats 4000000 in
theorem write_any (t m : Nat) (nd cnt ref : Int) (g : Nat → Option RW) (i : Nat) (hi : i < 4) (w : World) (hN : NmAt w t nd cnt m g) (hc0 : 0 ≤ cnt) (hc : cnt < 1099511627776) :
    Calls Try.prog 24 #[.pointer (some ⟨t, 0, none⟩), .string (nmS i), .int .i64 ref] w fun e w' => e = .returned (.int .i64 0) ∧ NmAt w' t nd (cnt + 1) m (updT g i ⟨ref, cnt + 1, nd⟩) ∧ Fr (fun b => b = t ∨ b = m) w w' := by
  have HN := Lib.hid hN
  obtain ⟨c0, c1, c2, hf, hne, htab⟩ := hN
  obtain ⟨w1, hw1⟩ : ∃ w1, w1 = w.setCell ⟨t, 1, none⟩ (.int .i64 (cnt + 1)) := ⟨_, rfl⟩
  have hT1 : OwnT w1.drew m g := by
    rw [hw1]
    have hfr : Fr (fun b => b = t) w (w.setCell ⟨t, 1, none⟩ (.int .i64 (cnt + 1))) := Fr.set (S := fun b => b = t) (Fr.refl _ w) (.inl rfl) _
    exact (htab.fr hfr (fun e => hne e.symm)).drew
  obtain ⟨w2, hrun, hT2, hg2⟩ := hT1.store hi ⟨ref, cnt + 1, nd⟩
  have hz : cnt ≠ 1099511627776 := by omega
  have f1 := hf 1
  have hd : decide (cnt = 1099511627776) = false := decide_eq_false hz
  have HW := Lib.hid hw1
  have hF1 : Fr (fun b => b = t ∨ b = m) w w1 := by rw [hw1]; exact Fr.set (S := fun b => b = t ∨ b = m) (Fr.refl _ w) (.inl (.inl rfl)) _
  have d0 : w1.cell? ⟨t, 0, none⟩ = some (.int .i64 nd) := by rw [hw1]; simp [go_sem, c0]
  have d1 : w1.cell? ⟨t, 1, none⟩ = some (.int .i64 (cnt + 1)) := by rw [hw1]; simp [go_sem, c1]
  have d2 : w1.cell? ⟨t, 2, none⟩ = some (.map (some m)) := by rw [hw1]; simp [go_sem, c2]
  have hz1 : w1.heap.size = w.heap.size := by rw [hw1]; simp [go_sem]
  have HQ := Lib.hid (show NmAt w2 t nd (cnt + 1) m (updT g i ⟨ref, cnt + 1, nd⟩) ∧ Fr (fun b => b = t ∨ b = m) w w2 from by
    have hlt : t < w1.drew.heap.size := by show t < w1.heap.size; have := HN.out.lt; omega
    have hk : ∀ o u, w1.cell? ⟨t, o, none⟩ = some u → w2.cell? ⟨t, o, none⟩ = some u := fun o u h => (grown_cell (b := t) (o := o) hg2 hlt (fun e => hne (by injection e))).trans h
    refine ⟨⟨hk 0 _ d0, hk 1 _ d1, hk 2 _ d2, fun o => ?_, hne, hT2⟩, hF1.drew.trans' (Fr.of_grown (S := fun b => b = t ∨ b = m) hg2 fun b e => .inl (.inr (by injection e with e; exact e.symm)))⟩
    refine (grown_frozen (b := t) (o := o) hg2 hlt (fun e => hne (by injection e))).trans ?_
    show w1.frozen? ⟨t, o, none⟩ = false
    rw [hw1]
    simpa [go_sem] using hf o)
  unfold rwV at hrun
  dsimp only at hrun
  generalize nmS i = s at hrun ⊢
  clear hT2 hg2 hT1 htab hw1 hF1 hz1
  go_enter Try.func24, Try.ntmps24
  go_wp2_with fail
  rw [← HW.out]
  clear HW c0 c1 c2 f1 hf hd hz
  go_region
  go_wp2_with fail
  go_ret
  exact ⟨rfl, HQ.out⟩
/-- what Find says -/
def findG (g : Nat → Option RW) (i : Nat) : Int × Int := match g i with
  | some r => if r.ref > 0 then (r.ref, 0) else (0, 4)
  | none => (0, 4)
theorem atV_form (g : Nat → Option RW) (i : Nat) : ∃ s a b c, atV g i = .agg #[.string s, .int .i64 a, .int .i64 b, .int .i64 c] ∧ findG g i = if a > 0 then (a, 0) else (0, 4) := by
  unfold atV findG
  cases g i with
  | none => exact ⟨_, 0, 0, 0, rfl, rfl⟩
  | some r => exact ⟨_, r.ref, r.cnt, r.node, rfl, rfl⟩
set_option maxRecDepth 100000 in
set_option maxHeartbeats 4000000 in
theorem find_any (t m : Nat) (nd cnt : Int) (g : Nat → Option RW) (i : Nat) (hi : i < 4) (w : World) (hN : NmAt w t nd cnt m g) :
    Calls Try.prog 18 #[.pointer (some ⟨t, 0, none⟩), .string (nmS i)] w fun e w' => e = .returned (.tuple #[.int .i64 (findG g i).1, .int .i64 (findG g i).2]) ∧ Below w.heap.size w w' := by
  obtain ⟨c0, c1, c2, hf, hne, htab⟩ := hN
  have hlk := htab.look hi
  obtain ⟨s, a, b, c, hat, hfi⟩ := atV_form g i
  have hv := Lib.hid (valid_any i hi w)
  rw [hat] at hlk
  rw [hfi]
  generalize nmS i = x at hlk hv ⊢
  clear hat hfi htab
  by_cases ha : a > 0
  · have hd : decide (0 < a) = true := decide_eq_true ha
    rw [if_pos ha]
    go_enter Try.func18, Try.ntmps18
    go_wp2_with fail
    refine hv.out.mono ?_
    rintro e w1 ⟨rfl, rfl⟩
    go_wp2_with fail
    refine bodyPost_ret (v := .tuple #[.int .i64 a, .int .i64 0]) (by simp [results, Try.results18, go_sem]) rfl ⟨rfl, (Below.refl _ _).alloc (Nat.le_refl _) _⟩
  · have hd : decide (0 < a) = false := decide_eq_false ha
    rw [if_neg ha]
    go_enter Try.func18, Try.ntmps18
    go_wp2_with fail
    refine hv.out.mono ?_
    rintro e w1 ⟨rfl, rfl⟩
    go_wp2_with fail
    refine bodyPost_ret (v := .tuple #[.int .i64 0, .int .i64 4]) (by simp [results, Try.results18, go_sem]) rfl ⟨rfl, (Below.refl _ _).alloc (Nat.le_refl _) _⟩
set_option maxRecDepth 100000 in
set_option maxHeartbeats 4000000 in
theorem set_any (t m : Nat) (nd cnt ref : Int) (g : Nat → Option RW) (i : Nat) (hi : i < 4) (w : World) (hN : NmAt w t nd cnt m g) (hc0 : 0 ≤ cnt) (hc : cnt < 1099511627776) (hr : 1 ≤ ref) :
    Calls Try.prog 15 #[.pointer (some ⟨t, 0, none⟩), .string (nmS i), .int .i64 ref] w fun e w' => e = .returned (.int .i64 0) ∧ NmAt w' t nd (cnt + 1) m (updT g i ⟨ref, cnt + 1, nd⟩) ∧ Fr (fun b => b = t ∨ b = m) w w' := by
  have HN := Lib.hid hN
  obtain ⟨c0, c1, c2, hf, hne, htab⟩ := hN
  have hlk := htab.look_ok hi
  obtain ⟨s, a, b, c, hat, -⟩ := atV_form g i
  rw [hat] at hlk
  obtain ⟨W1, hW1⟩ : ∃ W1, W1 = w.alloc (.cells #[.string s, .int .i64 a, .int .i64 b, .int .i64 c] 80) := ⟨_, rfl⟩
  have hB1 : Below w.heap.size w W1 := by rw [hW1]; exact (Below.refl _ _).alloc (Nat.le_refl _) _
  have hN1 := HN.out.fr (S := fun _ => False) (Fr.of_below hB1) (fun h => h) (fun h => h)
  have HV := Lib.hid (valid_any i hi W1)
  have HWR := Lib.hid (write_any t m nd cnt ref g i hi W1 hN1 hc0 hc)
  have d2 := hN1.c2
  have hlen := hN1.tab.len
  have hcn : ((cntT g : Int) == 60) = false := by
    have := cnt_le g
    simp only [beq_eq_false_iff_ne, ne_eq]
    omega
  have hr1 : decide (ref < 1) = false := decide_eq_false (by omega)
  have HE := Lib.hid hW1
  have HB := Lib.hid hB1
  have HL := Lib.hid hlen
  generalize cntT g = cg at hlen hcn HL
  generalize nmS i = x at hlk HV HWR ⊢
  clear hat htab hB1 hN1 hW1 hlen
  cases hsome : (g i).isSome with
  | true =>
    rw [hsome] at hlk
    clear hsome
    go_enter Try.func15, Try.ntmps15
    go_wp2_with fail
    rw [← HE.out]
    refine HV.out.mono ?_
    rintro e w1 ⟨rfl, rfl⟩
    go_wp2_with fail
    refine HWR.out.mono ?_
    rintro e w2 ⟨rfl, hN2, hF2⟩
    have hq : Fr (fun b => b = t ∨ b = m) w w2 := (Fr.of_below HB.out).trans' hF2
    have HN2 := Lib.hid hN2
    have HQ := Lib.hid hq
    clear hN2 hF2 hq
    go_wp2_with fail
    go_ret
    exact ⟨rfl, HN2.out, HQ.out⟩
  | false =>
    rw [hsome] at hlk
    clear hsome
    have hlen := HL.out
    go_enter Try.func15, Try.ntmps15
    go_wp2_with fail
    rw [← HE.out]
    refine HV.out.mono ?_
    rintro e w1 ⟨rfl, rfl⟩
    go_wp2_with fail
    refine HWR.out.mono ?_
    rintro e w2 ⟨rfl, hN2, hF2⟩
    have hq : Fr (fun b => b = t ∨ b = m) w w2 := (Fr.of_below HB.out).trans' hF2
    have HN2 := Lib.hid hN2
    have HQ := Lib.hid hq
    clear hN2 hF2 hq
    go_wp2_with fail
    go_ret
    exact ⟨rfl, HN2.out, HQ.out⟩
/-- what Drop makes of a table -/
def dropG (g : Nat → Option RW) (cnt nd : Int) (i : Nat) : (Nat → Option RW) × Int := if (findG g i).2 = 0 then (updT g i ⟨0, cnt + 1, nd⟩, cnt + 1) else (g, cnt)
set_option maxRecDepth 100000 in
set_option maxHeartbeats 4000000 in
theorem drop_any (t m : Nat) (nd cnt : Int) (g : Nat → Option RW) (i : Nat) (hi : i < 4) (w : World) (hN : NmAt w t nd cnt m g) (hc0 : 0 ≤ cnt) (hc : cnt < 1099511627776) :
    Calls Try.prog 14 #[.pointer (some ⟨t, 0, none⟩), .string (nmS i)] w fun e w' => ∃ x : Int, e = .returned (.int .i64 x) ∧ NmAt w' t nd (dropG g cnt nd i).2 m (dropG g cnt nd i).1 ∧ Fr (fun b => b = t ∨ b = m) w w' := by
  have HN := Lib.hid hN
  have HF := Lib.hid (find_any t m nd cnt g i hi w hN)
  have HW := Lib.hid (fun w1 (h : Below w.heap.size w w1) => write_any t m nd cnt 0 g i hi w1 (HN.out.fr (S := fun _ => False) (Fr.of_below h) (fun h => h) (fun h => h)) hc0 hc)
  have HD := Lib.hid (show dropG g cnt nd i = if (findG g i).2 = 0 then (updT g i ⟨0, cnt + 1, nd⟩, cnt + 1) else (g, cnt) from rfl)
  clear hN
  generalize findG g i = f at HF HD
  obtain ⟨f1, f2⟩ := f
  dsimp only at HF HD
  generalize nmS i = x at HF HW ⊢
  by_cases h0 : f2 = 0
  · subst h0
    rw [HD.out, if_pos rfl]
    go_enter Try.func14, Try.ntmps14
    go_wp2_with fail
    refine HF.out.mono ?_
    rintro e w1 ⟨rfl, hb⟩
    have HB := Lib.hid hb
    clear hb
    go_wp2_with fail
    refine (HW.out w1 HB.out).mono ?_
    rintro e w2 ⟨rfl, hN2, hF2⟩
    have hq : Fr (fun b => b = t ∨ b = m) w w2 := (Fr.of_below HB.out).trans' hF2
    have HN2 := Lib.hid hN2
    have HQ := Lib.hid hq
    clear hN2 hF2 hq
    go_wp2_with fail
    go_ret
    exact ⟨_, rfl, HN2.out, HQ.out⟩
  · rw [HD.out, if_neg h0]
    have h1 : (f2 != 0) = true := by simpa using h0
    go_enter Try.func14, Try.ntmps14
    go_wp2_with fail
    refine HF.out.mono ?_
    rintro e w1 ⟨rfl, hb⟩
    have HB := Lib.hid hb
    clear hb
    go_wp2_with fail
    go_ret
    exact ⟨_, rfl, HN.out.fr (S := fun _ => False) (Fr.of_below HB.out) (fun h => h) (fun h => h), Fr.of_below HB.out⟩
end Go.Proofs.Ytmjihhjcgkpmhaa
