/- A table's rows in order: State; received rows are right: checkRows. -/
import Derived.Test.YtmjihhjcgkpmhaaNmOps
import Derived.Test.YtmjihhjcgkpmhaaIter
import Derived.Deep.AppendLies
import Derived.Deep.RegionHeld3
namespace Go.Proofs.Ytmjihhjcgkpmhaa
open Go.RowKit Go.Maps
set_option linter.unusedVariables false
theorem cell_four_new (w : World) (a b c d : Value) (t : TypeId) : ∀ j u, [a, b, c, d][j]? = some u → (w.alloc (.cells #[a, b, c, d] t)).cell? ((⟨w.heap.size, 0, none⟩ : Addr).add j) = some u := by
  intro j u hj
  match j, hj with
  | 0, hj => simp at hj; subst hj; simp [Addr.add]
  | 1, hj => simp at hj; subst hj; simp [Addr.add]
  | 2, hj => simp at hj; subst hj; simp [Addr.add]
  | 3, hj => simp at hj; subst hj; simp [Addr.add]
theorem infoR : (Try.prog.info? 80).map (fun i => (i.zero, i.size, i.bytes)) = some (some rw0, 4, 40) := by kernel_rfl
def rowsIx (g : Nat → Option RW) : List Nat := (List.range 4).filter fun i => (g i).isSome
def ixT (g : Nat → Option RW) (k : Nat) : Nat := (rowsIx g).getD k 0
def rwT (g : Nat → Option RW) (k : Nat) : RW := (g (ixT g k)).getD ⟨0, 0, 0⟩
def rwC (g : Nat → Option RW) (k : Nat) : List Value := [.string (nmS (ixT g k)), .int .i64 (rwT g k).ref, .int .i64 (rwT g k).cnt, .int .i64 (rwT g k).node]
theorem rwC_len (g : Nat → Option RW) (k : Nat) : (rwC g k).length = 4 := rfl
theorem rows_len (g : Nat → Option RW) : (rowsIx g).length = cntT g := rfl
theorem ix_mem (g : Nat → Option RW) {k : Nat} (h : k < cntT g) : ixT g k < 4 ∧ (g (ixT g k)).isSome = true := by
  have hl : k < (rowsIx g).length := h
  have hm : (rowsIx g)[k] ∈ rowsIx g := List.getElem_mem hl
  have e : ixT g k = (rowsIx g)[k] := by simp [ixT, List.getD, hl]
  rw [← e] at hm
  unfold rowsIx at hm
  simp only [List.mem_filter, List.mem_range] at hm
  exact hm
theorem at_ix (g : Nat → Option RW) {k : Nat} (h : k < cntT g) : atV g (ixT g k) = .agg ⟨rwC g k⟩ ∧ g (ixT g k) = some (rwT g k) := by
  obtain ⟨r, hr⟩ := Option.isSome_iff_exists.1 (ix_mem g h).2
  unfold atV rwC rwT
  rw [hr]
  exact ⟨rfl, rfl⟩
theorem key_ix (g : Nat → Option RW) {k : Nat} (h : k < cntT g) : ((keysT g).map encStr)[k]? = some (.string (nmS (ixT g k))) := by
  have hl : k < (rowsIx g).length := h
  have e : ixT g k = (rowsIx g)[k] := by simp [ixT, List.getD, hl]
  show (((rowsIx g).map nmB).map encStr)[k]? = _
  rw [e]
  simp [hl]
  rfl
set_option maxRecDepth 100000 in
set_option maxHeartbeats 4000000 in
theorem state_any (t m : Nat) (nd cnt : Int) (g : Nat → Option RW) (w : World) (hN : NmAt w t nd cnt m g) :
    Calls Try.prog 17 #[.pointer (some ⟨t, 0, none⟩)] w fun e w' => ∃ v, e = .returned v ∧ w'.ownsRow w.heap.size 80 4 v (cntT g) (flatC (rwC g) (cntT g)) ∧ Below w.heap.size w w' := by
  obtain ⟨i0, hi, jz0, jz1, jz2⟩ := info_parts infoR
  have HN := Lib.hid hN
  obtain ⟨c0, c1, c2, hf, hne, htab⟩ := hN
  obtain ⟨D, hD, hs4, hso⟩ := htab.keys
  have HSO := Lib.hid hso
  have HSK := Lib.hid (Try.sorted_Keys m _ D anyElem w hD (by unfold maxLen; omega) (by omega))
  have HKK := Lib.hid (Try.maps_Keys (some m) w)
  clear htab hD hso hs4
  go_enter Try.func17, Try.ntmps17
  go_wp2_with fail
  refine HKK.out.mono ?_
  rintro e w1 ⟨rfl, rfl⟩
  go_wp2_with fail
  refine HSK.out.mono ?_
  rintro e w1 ⟨v, ss, rfl, hS, hrow, hnil, hb⟩
  have hk := HSO.out ss hS
  have hlen : ss.length = cntT g := by rw [← keys_len, ← hk, List.length_mergeSort]
  rw [hlen] at hrow
  have hrow : w1.ownsRow (w.heap.size + 1) 9 1 v (cntT g) ((keysT g).map encStr) := by
    rw [← hk]; simpa using hrow
  have hB : Below w.heap.size w w1 := ((Below.refl _ w).alloc (Nat.le_refl _) _).trans (hb.mono (by simp))
  have HB1 := Lib.hid hB
  have HR1 := Lib.hid hrow
  have hn4 := cnt_le g
  have HKI := Lib.hid (fun k h => key_ix g (k := k) h)
  have HAT := Lib.hid (fun k h => at_ix g (k := k) h)
  have HIM := Lib.hid (fun k h => ix_mem g (k := k) h)
  have HN1 := Lib.hid (HN.out.fr (S := fun _ => False) (Fr.of_below HB1.out) (fun h => h) (fun h => h))
  obtain ⟨A, c, rfl, hnc, hcm, -⟩ := own_any hrow
  generalize hcn : cntT g = n at *
  have HCN := Lib.hid hcn
  clear hk hlen hS hnil hb hrow hB HSO HSK HKK hcn
  go_wp2_with fail
  go_loopw [3, 13] (fun v x wr => ∃ (k : Nat) (u : Value), u = v ∧ k ≤ n ∧ x = .int .i64 (k : Int) ∧ wr.ownsRow w1.heap.size 80 4 u k (flatC (rwC g) k) ∧ Below w1.heap.size w1 wr) (fun _ x _ => n - (intOf x).toNat)
  case atStart => exact ⟨0, _, rfl, by omega, rfl, World.ownsRow_nil _ _ _ _, Below.refl _ _⟩
  case round =>
    obtain ⟨k, v, rfl, hkn, rfl, hown, hB⟩ := hrel
    obtain ⟨Ao, co, rfl, -, -, -⟩ := own_any hown
    have HO := Lib.hid hown
    have HB := Lib.hid hB
    by_cases hk : k < n
    · obtain ⟨gb, cap, hv, -, hgb, -⟩ := own_form HR1.out (by omega)
      injection hv with e1 _ e3
      subst e1 e3
      have ck : w1.cell? ⟨gb, k, none⟩ = some (.string (nmS (ixT g k))) := by
        rw [World.ownsRow.cellAt HR1.out k (by omega)]
        exact HKI.out k hk
      have ck : wr.cell? ⟨gb, k, none⟩ = some (.string (nmS (ixT g k))) := (hB.cell (p := ⟨gb, k, none⟩) hgb).trans ck
      have hNr := HN1.out.fr (S := fun _ => False) (Fr.of_below hB) (fun h => h) (fun h => h)
      have r2 := hNr.c2
      have hlk := hNr.tab.look (HIM.out k hk).1
      rw [(HAT.out k hk).1] at hlk
      unfold rwC at hlk
      have hd : decide ((k : Int) < (n : Int)) = true := decide_eq_true (by omega)
      have j0 : (0 : Int) ≤ (k : Int) := by omega
      have j1 : (k : Int) < (n : Int) := by omega
      have hz := hB.size
      have HFL := Lib.hid (show flatC (rwC g) (k + 1) = flatC (rwC g) k ++ [.string (nmS (ixT g k)), .int .i64 (rwT g k).ref, .int .i64 (rwT g k).cnt, .int .i64 (rwT g k).node] from rfl)
      generalize nmS (ixT g k) = s at ck hlk HFL
      generalize rwT g k = r at hlk HFL
      obtain ⟨r1, r3, r4⟩ := r
      dsimp only at hlk HFL
      clear hNr hown hB
      go_wp2_with (at_builtin; refine wpList_append_lies _ rfl _ _ 62 rfl w1.heap.size 80 i0 _ 4 40 Try.underlying62 hi jz0 jz1 jz2 rfl (by omega) (.slice Ao k co) k (flatC (rwC g) k) rfl (HO.out.alloc _) ⟨wr.heap.size, 0, none⟩ 1 1 [.string s, .int .i64 r1, .int .i64 r3, .int .i64 r4] rfl rfl (cell_four_new _ _ _ _ _ _) (by simp [Value.oneCell']) (by omega) (by unfold maxLen; omega) (by omega) (by simp; omega) (wr.heap.size + 1) (by simp) ?_; intro gn cn w2 hown2 hgrow2 hat2 hlt2; have HO2 := Lib.hid hown2; have HG2 := Lib.hid hgrow2; have HA2 := Lib.hid hat2; clear hown2 hgrow2 hat2 hlt2)
      exact ⟨⟨k + 1, _, rfl, by omega, by go_num, by rw [HFL.out]; exact HO2.out, (HB.out.alloc hz _).grown HG2.out (by simp; omega) (fun b hb => (HO.out.lt b hb).1)⟩, by simp [intOf]; omega⟩
    · have hd : decide ((k : Int) < (n : Int)) = false := decide_eq_false (by omega)
      obtain rfl : k = n := by omega
      go_wp2_with fail
      go_ret
      exact ⟨_, rfl, by rw [HCN.out]; exact own_mono HO.out HB1.out.size, HB1.out.trans (HB.out.mono HB1.out.size)⟩
/-- what holds of a table's rows -/
structure OkT (g : Nat → Option RW) (cnt : Int) : Prop where
  c0 : 0 ≤ cnt
  row : ∀ i, i < 4 → ∀ r, g i = some r → 0 ≤ r.ref ∧ 1 ≤ r.cnt ∧ r.cnt ≤ cnt ∧ 1 ≤ r.node ∧ r.node ≤ 8
theorem ix_lt (g : Nat → Option RW) {k : Nat} (h : k + 1 < cntT g) : ixT g k < ixT g (k + 1) := by
  have hl : k + 1 < (rowsIx g).length := h
  have hp : (rowsIx g).Pairwise (· < ·) := List.Pairwise.filter _ (List.pairwise_lt_range (n := 4))
  have := List.pairwise_iff_getElem.1 hp k (k + 1) (by omega) hl (by omega)
  simpa [ixT, List.getD, hl, show k < (rowsIx g).length by omega] using this
/-- comparing two names -/
theorem leq_names (i j : Nat) (h : i < j) (hj : j < 4) (w : World) : (binOp .leq 9 (.string (nmS j)) (.string (nmS i))).run Try.prog w = .ok (.bool false) w := by
  have hk : (i = 0 ∧ j = 1) ∨ (i = 0 ∧ j = 2) ∨ (i = 0 ∧ j = 3) ∨ (i = 1 ∧ j = 2) ∨ (i = 1 ∧ j = 3) ∨ (i = 2 ∧ j = 3) := by omega
  clear h hj
  rcases hk with h | h | h | h | h | h
  all_goals
    obtain ⟨rfl, rfl⟩ := h
    exact (show ∀ w, (binOp .leq 9 (.string (nmS _)) (.string (nmS _))).run Try.prog w = .ok (.bool false) w from fun w => by kernel_rfl) w
set_option maxRecDepth 100000 in
set_option maxHeartbeats 4000000 in
theorem check_any (g : Nat → Option RW) (cnt : Int) (ok : OkT g cnt) (hc : cnt ≤ 1099511627776) (A : Option Addr) (c : Nat) (w : World) (hc1 : cntT g ≤ c) (hc2 : c ≤ 9223372036854775807) (hR : Rd w 4 (rwC g) A (cntT g)) :
    Calls Try.prog 26 #[.slice A (cntT g) c] w fun e w' => e = .returned (.int .i64 0) ∧ Below w.heap.size w w' := by
  have HR := Lib.hid hR
  have HI := Lib.hid (fun k h => ix_mem g (k := k) h)
  have HAT := Lib.hid (fun k h => at_ix g (k := k) h)
  have HOK := Lib.hid ok
  have HLT := Lib.hid (fun k h => ix_lt g (k := k) h)
  have hn4 := cnt_le g
  clear hR ok
  generalize cntT g = n at *
  go_enter Try.func26, Try.ntmps26
  go_wp2_with fail
  go_loopw [10] (fun x wr => ∃ k : Nat, k ≤ n ∧ x = .int .i64 (k : Int) ∧ Below w.heap.size w wr) (fun x _ => n - (intOf x).toNat)
  case atStart => exact ⟨0, by omega, rfl, Below.refl _ _⟩
  case round =>
    obtain ⟨k, hkn, rfl, hB⟩ := hrel
    have HB := Lib.hid hB
    by_cases hk : k < n
    · obtain ⟨b, off, rfl, hb, hcell⟩ := HR.out (by omega)
      have q0 := (hB.cell (p := ⟨b, off + k * 4 + 0, none⟩) hb).trans (hcell k hk 0 _ rfl)
      have q1 := (hB.cell (p := ⟨b, off + k * 4 + 1, none⟩) hb).trans (hcell k hk 1 _ rfl)
      have q2 := (hB.cell (p := ⟨b, off + k * 4 + 2, none⟩) hb).trans (hcell k hk 2 _ rfl)
      have q3 := (hB.cell (p := ⟨b, off + k * 4 + 3, none⟩) hb).trans (hcell k hk 3 _ rfl)
      simp only [Nat.add_zero] at q0
      obtain ⟨o1, o2, o3, o4, o5⟩ := HOK.out.row _ (HI.out k hk).1 _ (HAT.out k hk).2
      have hd : decide ((k : Int) < (n : Int)) = true := decide_eq_true (by omega)
      have j0 : (0 : Int) ≤ (k : Int) := by omega
      have j1 : (k : Int) < (n : Int) := by omega
      generalize rwT g k = r at q1 q2 q3 o1 o2 o3 o4 o5
      obtain ⟨r1, r2, r3⟩ := r
      dsimp only at q1 q2 q3 o1 o2 o3 o4 o5
      have e1 : decide (r1 < 0) = false := decide_eq_false (by omega)
      have e2 : decide (r2 < 1) = false := decide_eq_false (by omega)
      have e3 : decide (1099511627776 < r2) = false := decide_eq_false (by omega)
      have e4 : decide (r3 < 1) = false := decide_eq_false (by omega)
      have e5 : decide (8 < r3) = false := decide_eq_false (by omega)
      have HV := Lib.hid (fun w => valid_any (ixT g k) (HI.out k hk).1 w)
      have hBs := hB.size
      have HBN := Lib.hid (hB.alloc hBs (.cells #[.string (nmS (ixT g k)), .int .i64 r1, .int .i64 r2, .int .i64 r3] 80))
      by_cases h0 : k = 0
      · have HZ := Lib.hid h0
        have hg : decide ((0 : Int) < (k : Int)) = false := decide_eq_false (by omega)
        have hg2 : decide (0 < k) = false := decide_eq_false (by omega)
        generalize nmS (ixT g k) = s at q0 HV HBN
        clear h0
        go_wp2_with fail
        refine (HV.out _).mono ?_
        rintro e w1 ⟨rfl, rfl⟩
        go_wp2_with fail
        go_quiet (fail)
        go_wp2_with fail
        exact ⟨⟨k + 1, by omega, by go_num, below_drewN HBN.out _⟩, by simp [intOf]; omega⟩
      · obtain ⟨p, hp⟩ : ∃ p, k = p + 1 := ⟨k - 1, by omega⟩
        have p0 := (hB.cell (p := ⟨b, off + p * 4 + 0, none⟩) hb).trans (hcell p (by omega) 0 _ rfl)
        simp only [Nat.add_zero] at p0
        have p0 : wr.cell? ⟨b, off + (k - 1) * 4, none⟩ = some (.string (nmS (ixT g p))) := by rw [show k - 1 = p by omega]; exact p0
        have hlq := fun w => leq_names (ixT g p) (ixT g k) (by rw [hp]; exact HLT.out p (by omega)) (HI.out k hk).1 w
        have i3 : ((k : Int) - 1).toNat = k - 1 := by omega
        have i4 : IntKind.i64.wrap ((k : Int) - 1) = (k : Int) - 1 := by rw [IntWalk.i64_in _ (by omega)]
        have i5 : (0 : Int) ≤ (k : Int) - 1 := by omega
        have i6 : (k : Int) - 1 < (n : Int) := by omega
        have i7 : (1 : Int) ≤ (k : Int) := by omega
        have hbw : b < wr.heap.size := by omega
        have hg : decide ((0 : Int) < (k : Int)) = true := decide_eq_true (by omega)
        have hg2 : decide (0 < k) = true := decide_eq_true (by omega)
        generalize nmS (ixT g k) = s at q0 HV HBN hlq
        generalize nmS (ixT g p) = s2 at p0 hlq
        have HP := Lib.hid hp
        clear h0 hp
        go_wp2_with fail
        refine (HV.out _).mono ?_
        rintro e w1 ⟨rfl, rfl⟩
        go_wp2_with fail
        go_quiet (fail)
        go_wp2_with fail
        exact ⟨⟨k + 1, by omega, by go_num, below_drewN HBN.out _⟩, by simp [intOf]; omega⟩
    · have hd : decide ((k : Int) < (n : Int)) = false := decide_eq_false (by omega)
      go_wp2_with fail
      go_ret
      exact ⟨rfl, HB.out⟩
end Go.Proofs.Ytmjihhjcgkpmhaa
