/- Merging received rows into a table. -/
import Derived.Test.YtmjihhjcgkpmhaaNmRows
namespace Go.Proofs.Ytmjihhjcgkpmhaa
open Go.RowKit Go.Maps
set_option linter.unusedVariables false
def winO (r : RW) : Option RW → Bool
  | none => true
  | some o => winsB r o
def stepG (G : Nat → Option RW) (i : Nat) (r : RW) : Nat → Option RW := if winO r (G i) = true then updT G i r else G
def mG (g h : Nat → Option RW) : Nat → Nat → Option RW
  | 0 => g
  | k + 1 => stepG (mG g h k) (ixT h k) (rwT h k)
def mC (cnt : Int) (h : Nat → Option RW) : Nat → Int
  | 0 => cnt
  | k + 1 => max (mC cnt h k) (rwT h k).cnt
def merged (g h : Nat → Option RW) : Nat → Option RW := mG g h (cntT h)
def mergedC (cnt : Int) (h : Nat → Option RW) : Int := mC cnt h (cntT h)
theorem clone_own {w : World} {b : Nat} {g : Nat → Option RW} (h : OwnT w b g) : Calls Try.prog 27 #[.map (some b)] w fun e w' => e = .returned (.map (some w.heap.size)) ∧ OwnT w' w.heap.size g ∧ Below w.heap.size w w' := by
  obtain ⟨D, h1, h2⟩ := h
  refine (Try.maps_Clone anyElem b _ D w h1).mono ?_
  rintro e w' ⟨he, h3, -, hb⟩
  exact ⟨he, ⟨D, h3, h2⟩, hb⟩
set_option maxRecDepth 100000 in
set_option maxHeartbeats 4000000 in
theorem merge_any (t m : Nat) (nd cnt cnt2 : Int) (g h : Nat → Option RW) (w : World) (hN : NmAt w t nd cnt m g) (ok : OkT h cnt2) (hc : cnt2 ≤ 1099511627776) (A : Option Addr) (c : Nat) (hc1 : cntT h ≤ c) (hc2 : c ≤ 9223372036854775807) (hR : Rd w 4 (rwC h) A (cntT h)) :
    Calls Try.prog 16 #[.pointer (some ⟨t, 0, none⟩), .slice A (cntT h) c] w fun e w' => e = .returned (.int .i64 0) ∧ (∃ m', w.heap.size ≤ m' ∧ NmAt w' t nd (mergedC cnt h) m' (merged g h)) ∧ Fr (fun b => b = t) w w' := by
  have HN := Lib.hid hN
  have HR := Lib.hid hR
  have HCK := Lib.hid (check_any h cnt2 ok hc A c w hc1 hc2 hR)
  have HI := Lib.hid (fun k hk => ix_mem h (k := k) hk)
  have HAT := Lib.hid (fun k hk => at_ix h (k := k) hk)
  have hn4 := cnt_le h
  have HMG := Lib.hid (show merged g h = mG g h (cntT h) from rfl)
  have HMC := Lib.hid (show mergedC cnt h = mC cnt h (cntT h) from rfl)
  clear hN hR ok
  generalize hcn : cntT h = n at *
  clear hcn
  go_enter Try.func16, Try.ntmps16
  go_wp2_with fail
  refine HCK.out.mono ?_
  rintro e w1 ⟨rfl, hb1⟩
  have HB1 := Lib.hid hb1
  have HN1 := Lib.hid (HN.out.fr (S := fun _ => False) (Fr.of_below hb1) (fun h => h) (fun h => h))
  have c2 := HN1.out.c2
  have c1 := HN1.out.c1
  clear hb1 HCK
  go_wp2_with fail
  refine (clone_own HN1.out.tab).mono ?_
  rintro e w2 ⟨rfl, hT2, hb2⟩
  have HB2 := Lib.hid (HB1.out.trans (hb2.mono HB1.out.size))
  have HN2 := Lib.hid (HN1.out.fr (S := fun _ => False) (Fr.of_below hb2) (fun h => h) (fun h => h))
  have HT2 := Lib.hid hT2
  have HLT := Lib.hid (show t < w.heap.size from HN.out.lt)
  have HMA := Lib.hid (show w.heap.size ≤ w1.heap.size ∧ w1.heap.size < w2.heap.size from ⟨HB1.out.size, hT2.lt⟩)
  have d1 := HN2.out.c1
  clear c1 c2 hT2 hb2 HN1 HB1
  generalize w1.heap.size = ma at *
  go_wp2_with fail
  go_loopw [7, 28] (fun x7 x28 wr => ∃ k : Nat, k ≤ n ∧ x28 = .int .i64 (k : Int) ∧ x7 = .int .i64 (mC cnt h k) ∧ OwnT wr ma (mG g h k) ∧ Below w.heap.size w wr) (fun _ x _ => n - (intOf x).toNat)
  case atStart => exact ⟨0, by omega, rfl, rfl, HT2.out, HB2.out⟩
  case round =>
    obtain ⟨k, hkn, rfl, rfl, hT, hB⟩ := hrel
    have HT := Lib.hid hT
    have HB := Lib.hid hB
    by_cases hk : k < n
    · obtain ⟨b, off, rfl, hb, hcell⟩ := HR.out (by omega)
      have q0 := (hB.cell (p := ⟨b, off + k * 4 + 0, none⟩) hb).trans (hcell k hk 0 _ rfl)
      have q1 := (hB.cell (p := ⟨b, off + k * 4 + 1, none⟩) hb).trans (hcell k hk 1 _ rfl)
      have q2 := (hB.cell (p := ⟨b, off + k * 4 + 2, none⟩) hb).trans (hcell k hk 2 _ rfl)
      have q3 := (hB.cell (p := ⟨b, off + k * 4 + 3, none⟩) hb).trans (hcell k hk 3 _ rfl)
      simp only [Nat.add_zero] at q0
      have hi := (HI.out k hk).1
      have hd : decide ((k : Int) < (n : Int)) = true := decide_eq_true (by omega)
      have j0 : (0 : Int) ≤ (k : Int) := by omega
      have j1 : (k : Int) < (n : Int) := by omega
      have HMS := Lib.hid (show mG g h (k + 1) = stepG (mG g h k) (ixT h k) (rwT h k) from rfl)
      have HCS := Lib.hid (show mC cnt h (k + 1) = max (mC cnt h k) (rwT h k).cnt from rfl)
      have hBs := hB.size
      have hma := HMA.out.1
      generalize mG g h k = G at HT HMS
      generalize mC cnt h k = mc at HCS ⊢
      generalize rwT h k = r at q1 q2 q3 HMS HCS
      generalize ixT h k = i at q0 hi HMS
      obtain ⟨r1, r2, r3⟩ := r
      dsimp only at q1 q2 q3 HCS
      -- the box of the row
      have hT1 := HT.out.fr (S := fun _ => False) (Fr.of_below ((Below.refl _ wr).alloc (Nat.le_refl _) (.cells #[.string (nmS i), .int .i64 r1, .int .i64 r2, .int .i64 r3] 80))) (fun h => h)
      have hlk := hT1.look_ok hi
      have hmb := HT.out.lt
      cases hG : G i with
      | none =>
        have hat : atV G i = .agg #[.string ⟨#[]⟩, .int .i64 0, .int .i64 0, .int .i64 0] := by unfold atV; rw [hG]; rfl
        rw [hat, hG] at hlk
        dsimp only [Option.isSome] at hlk
        have hT2 := hT1.fr (S := fun _ => False) (Fr.of_below ((Below.refl _ _).alloc (Nat.le_refl _) (.cells #[.string ⟨#[]⟩, .int .i64 0, .int .i64 0, .int .i64 0] 80))) (fun h => h)
        obtain ⟨w4, hrun, hT4, hg4⟩ := hT2.store hi ⟨r1, r2, r3⟩
        unfold rwV at hrun
        dsimp only at hrun
        have e2 : w4.cell? ⟨wr.heap.size, 2, none⟩ = some (.int .i64 r2) := (grown_cell (b := wr.heap.size) (o := 2) hg4 (by simp; omega) (fun e => by injection e; omega)).trans (by simp [go_sem])
        have HQ := Lib.hid (show OwnT w4 ma (mG g h (k + 1)) ∧ Below w.heap.size w w4 from ⟨by rw [HMS.out]; unfold stepG; rw [hG]; exact hT4, ((hB.alloc hBs _).alloc (by simp; omega) _).grown hg4 (by simp; omega) (fun b e => by injection e; omega)⟩)
        clear hT1 hT2 hT4 hg4 hat hG hT hB hmb
        generalize nmS i = x at q0 hlk hrun
        go_wp2_with fail
        exact ⟨⟨k + 1, by omega, by go_num, by rw [HCS.out], HQ.out.1, HQ.out.2⟩, by simp [intOf]; omega⟩
      | some old =>
        obtain ⟨p1, p2, p3⟩ := old
        have hat : atV G i = .agg #[.string (nmS i), .int .i64 p1, .int .i64 p2, .int .i64 p3] := by unfold atV; rw [hG]; rfl
        rw [hat, hG] at hlk
        dsimp only [Option.isSome] at hlk
        have hT2 := hT1.fr (S := fun _ => False) (Fr.of_below ((Below.refl _ _).alloc (Nat.le_refl _) (.cells #[.string (nmS i), .int .i64 p1, .int .i64 p2, .int .i64 p3] 80))) (fun h => h)
        have HT2b := Lib.hid hT2
        have HWN := Lib.hid (fun W => (show Calls Try.prog 28 #[.agg #[.string (nmS i), .int .i64 r1, .int .i64 r2, .int .i64 r3], .agg #[.string (nmS i), .int .i64 p1, .int .i64 p2, .int .i64 p3]] W (fun e w' => e = .returned (.bool (winsB ⟨r1, r2, r3⟩ ⟨p1, p2, p3⟩)) ∧ Below W.heap.size W w') from wins_any i i ⟨r1, r2, r3⟩ ⟨p1, p2, p3⟩ W))
        have HST := Lib.hid (show ∀ W, OwnT W ma G → ∃ w', (Instr.mapUpdate 82 (.map (some ma)) (.string (nmS i)) (.agg #[.string (nmS i), .int .i64 r1, .int .i64 r2, .int .i64 r3])).run Try.prog W = .ok () w' ∧ OwnT w' ma (updT G i ⟨r1, r2, r3⟩) ∧ W.grownBy w' (some ma) from fun W hW => hW.store hi ⟨r1, r2, r3⟩)
        have HSG := Lib.hid (show mG g h (k + 1) = if winsB ⟨r1, r2, r3⟩ ⟨p1, p2, p3⟩ = true then updT G i ⟨r1, r2, r3⟩ else G from by rw [HMS.out]; unfold stepG; rw [hG]; rfl)
        generalize winsB ⟨r1, r2, r3⟩ ⟨p1, p2, p3⟩ = bb at HWN HSG
        clear hT1 hT2 hat hG hT HMS
        generalize nmS i = x at q0 hlk HT2b HWN HST
        have HBA := Lib.hid (show Below w.heap.size w ((wr.alloc (.cells #[.string x, .int .i64 r1, .int .i64 r2, .int .i64 r3] 80)).alloc (.cells #[.string x, .int .i64 p1, .int .i64 p2, .int .i64 p3] 80)) from (hB.alloc hBs _).alloc (by simp; omega) _)
        clear hB
        go_wp2_with fail
        refine (HWN.out _).mono ?_
        rintro e w3 ⟨rfl, hb3⟩
        have hz3 := hb3.size
        have HT3 := Lib.hid (HT2b.out.fr (S := fun _ => False) (Fr.of_below hb3) (fun h => h))
        have HB3 := Lib.hid (HBA.out.trans (hb3.mono (by simp; omega)))
        have f0 : w3.cell? ⟨wr.heap.size, 0, none⟩ = some (.string x) := (hb3.cell (p := ⟨wr.heap.size, 0, none⟩) (by simp; omega)).trans (by simp [go_sem])
        have f1 : w3.cell? ⟨wr.heap.size, 1, none⟩ = some (.int .i64 r1) := (hb3.cell (p := ⟨wr.heap.size, 1, none⟩) (by simp; omega)).trans (by simp [go_sem])
        have f2 : w3.cell? ⟨wr.heap.size, 2, none⟩ = some (.int .i64 r2) := (hb3.cell (p := ⟨wr.heap.size, 2, none⟩) (by simp; omega)).trans (by simp [go_sem])
        have f3 : w3.cell? ⟨wr.heap.size, 3, none⟩ = some (.int .i64 r3) := (hb3.cell (p := ⟨wr.heap.size, 3, none⟩) (by simp; omega)).trans (by simp [go_sem])
        have hz4 : wr.heap.size < w3.heap.size := by simp at hz3; omega
        clear hb3 hz3 q0 q1 q2 q3 hlk
        cases bb with
        | true =>
          obtain ⟨w4, hrun, hT4, hg4⟩ := HST.out w3 HT3.out
          have e2 : w4.cell? ⟨wr.heap.size, 2, none⟩ = some (.int .i64 r2) := (grown_cell (b := wr.heap.size) (o := 2) hg4 hz4 (fun e => by injection e; omega)).trans f2
          have HQ := Lib.hid (show OwnT w4 ma (mG g h (k + 1)) ∧ Below w.heap.size w w4 from ⟨by rw [HSG.out]; exact hT4, HB3.out.grown hg4 HB3.out.size (fun b e => by injection e; omega)⟩)
          clear hT4 hg4 hmb
          go_wp2_with fail
          exact ⟨⟨k + 1, by omega, by go_num, by rw [HCS.out], HQ.out.1, HQ.out.2⟩, by simp [intOf]; omega⟩
        | false =>
          have HQ := Lib.hid (show OwnT w3 ma (mG g h (k + 1)) ∧ Below w.heap.size w w3 from ⟨by rw [HSG.out]; exact HT3.out, HB3.out⟩)
          clear hmb
          go_wp2_with fail
          exact ⟨⟨k + 1, by omega, by go_num, by rw [HCS.out], HQ.out.1, HQ.out.2⟩, by simp [intOf]; omega⟩
    · have hd : decide ((k : Int) < (n : Int)) = false := decide_eq_false (by omega)
      obtain rfl : k = n := by omega
      have hlen := hT.len
      have hle := cnt_le (mG g h k)
      generalize hcc : cntT (mG g h k) = cc at hlen hle
      have hg60 : decide (60 < (cc : Int)) = false := decide_eq_false (by omega)
      have hNr := HN2.out
      have c1r : wr.cell? ⟨t, 1, none⟩ = some (.int .i64 cnt) := (hB.cell (p := ⟨t, 1, none⟩) HLT.out).trans HN.out.c1
      have c0r : wr.cell? ⟨t, 0, none⟩ = some (.int .i64 nd) := (hB.cell (p := ⟨t, 0, none⟩) HLT.out).trans HN.out.c0
      have c2r : wr.cell? ⟨t, 2, none⟩ = some (.map (some m)) := (hB.cell (p := ⟨t, 2, none⟩) HLT.out).trans HN.out.c2
      have f1 : wr.frozen? ⟨t, 1, none⟩ = false := (hB.frozen (p := ⟨t, 1, none⟩) HLT.out).trans (HN.out.fz 1)
      have f2 : wr.frozen? ⟨t, 2, none⟩ = false := (hB.frozen (p := ⟨t, 2, none⟩) HLT.out).trans (HN.out.fz 2)
      have HFZ := Lib.hid (fun o => (hB.frozen (p := ⟨t, o, none⟩) HLT.out).trans (HN.out.fz o))
      have hma := HMA.out.1
      have HC0 := Lib.hid c0r
      have HC1 := Lib.hid c1r
      have HC2 := Lib.hid c2r
      clear hT hB hNr hcc hle d1
      have HF := Lib.hid (show Fr (fun b => b = t) wr ((wr.setCell ⟨t, 2, none⟩ (.map (some ma))).setCell ⟨t, 1, none⟩ (.int .i64 (mC cnt h k))) from Fr.set (S := fun b => b = t) (Fr.set (S := fun b => b = t) (Fr.refl _ wr) (.inl rfl) _) (.inl rfl) _)
      have HNE := Lib.hid (show t ≠ ma from by have := HLT.out; omega)
      go_wp2_with fail
      go_ret
      refine ⟨rfl, ⟨ma, hma, ?_⟩, (Fr.of_below HB.out).trans' HF.out⟩
      rw [HMG.out, HMC.out]
      exact ⟨by simp [go_sem, HC0.out], by simp [go_sem, HC1.out], by simp [go_sem, HC2.out], fun o => by simpa [go_sem] using HFZ.out o, HNE.out, HT.out.fr HF.out (fun e => HNE.out e.symm)⟩
/-! what merging makes -/
def mx : Option RW → Option RW → Option RW
  | a, none => a
  | a, some r => if winO r a = true then some r else a
theorem mG_at (g h : Nat → Option RW) : ∀ k, k ≤ cntT h → ∀ i, mG g h k i = if ∃ j, j < k ∧ ixT h j = i then mx (g i) (h i) else g i
  | 0, _, i => by simp [mG]
  | k + 1, hk, i => by
    have ih := mG_at g h k (by omega)
    have hlt : ∀ j, j < k → ixT h j < ixT h k := fun j hj => by
      have : ∀ d, j + d + 1 ≤ k → ixT h j < ixT h (j + d + 1) := fun d => by
        induction d with
        | zero => intro h'; exact ix_lt h (by omega)
        | succ d ihd => intro h'; exact Nat.lt_trans (ihd (by omega)) (ix_lt h (k := j + d + 1) (by omega))
      have := this (k - j - 1) (by omega)
      rwa [show j + (k - j - 1) + 1 = k by omega] at this
    have hat := (at_ix h (k := k) (by omega)).2
    have hself : mG g h k (ixT h k) = g (ixT h k) := by
      rw [ih, if_neg]
      rintro ⟨j, hj, e⟩
      have := hlt j hj
      omega
    show stepG (mG g h k) (ixT h k) (rwT h k) i = _
    unfold stepG
    rw [hself]
    by_cases e : i = ixT h k
    · subst e
      have hex : ∃ j, j < k + 1 ∧ ixT h j = ixT h k := ⟨k, by omega, rfl⟩
      rw [if_pos (c := ∃ j, j < k + 1 ∧ ixT h j = ixT h k) hex, hat]
      unfold mx
      by_cases hw : winO (rwT h k) (g (ixT h k)) = true
      · simp [hw, updT]
      · simp [hw, hself]
    · have e2 : (∃ j, j < k + 1 ∧ ixT h j = i) ↔ ∃ j, j < k ∧ ixT h j = i := by
        constructor
        · rintro ⟨j, hj, e3⟩
          refine ⟨j, ?_, e3⟩
          have : j ≠ k := fun e4 => e (by rw [← e3, e4])
          omega
        · rintro ⟨j, hj, e3⟩
          exact ⟨j, by omega, e3⟩
      have e3 : (if winO (rwT h k) (g (ixT h k)) = true then updT (mG g h k) (ixT h k) (rwT h k) else mG g h k) i = mG g h k i := by
        split
        · simp [updT, e]
        · rfl
      rw [e3, ih]
      by_cases hc : ∃ j, j < k ∧ ixT h j = i
      · rw [if_pos hc, if_pos (e2.2 hc)]
      · rw [if_neg hc, if_neg (fun h' => hc (e2.1 h'))]
theorem merged_at (g h : Nat → Option RW) {i : Nat} (hi : i < 4) : merged g h i = mx (g i) (h i) := by
  unfold merged
  rw [mG_at g h _ (Nat.le_refl _)]
  by_cases hs : (h i).isSome = true
  · have hm : i ∈ rowsIx h := by unfold rowsIx; simp [hi, hs]
    obtain ⟨j, hj, e⟩ := List.mem_iff_getElem.1 hm
    rw [if_pos ⟨j, hj, by simp [ixT, List.getD, hj, e]⟩]
  · rw [if_neg]
    · cases hh : h i with
      | none => rfl
      | some r => rw [hh] at hs; exact absurd rfl hs
    · rintro ⟨j, hj, e⟩
      exact hs (by rw [← e]; exact (ix_mem h hj).2)
theorem mC_ge (cnt : Int) (h : Nat → Option RW) (k : Nat) : cnt ≤ mC cnt h k := by
  induction k with
  | zero => exact Int.le_refl _
  | succ k ih => show _ ≤ max _ _; omega
theorem mC_row (cnt : Int) (h : Nat → Option RW) : ∀ k j, j < k → (rwT h j).cnt ≤ mC cnt h k
  | k + 1, j, hj => by
    show _ ≤ max _ _
    by_cases e : j = k
    · subst e; omega
    · have := mC_row cnt h k j (by omega); omega
theorem mC_le {cnt c2 : Int} {h : Nat → Option RW} (ok : OkT h c2) (hc : cnt ≤ c2) : ∀ k, k ≤ cntT h → mC cnt h k ≤ c2
  | 0, _ => hc
  | k + 1, hk => by
    have := mC_le ok hc k (by omega)
    have h2 := ix_mem h (k := k) (by omega)
    have h3 := (ok.row _ h2.1 _ (at_ix h (k := k) (by omega)).2).2.2.1
    show max _ _ ≤ _
    omega
theorem OkT.mono {g : Nat → Option RW} {c c2 : Int} (h : OkT g c) (hc : c ≤ c2) : OkT g c2 := ⟨by have := h.c0; omega, fun i hi r hr => by have := h.row i hi r hr; omega⟩
/-- a registry's state: its rows and its count -/
theorem OkT.merged {g h : Nat → Option RW} {cnt c2 : Int} (hg : OkT g cnt) (hh : OkT h c2) : OkT (merged g h) (mergedC cnt h) := by
  have h1 := mC_ge cnt h (cntT h)
  refine ⟨by have := hg.c0; unfold mergedC; omega, fun i hi r hr => ?_⟩
  rw [merged_at g h hi] at hr
  unfold mx at hr
  have hgi := hg.row i hi
  have hhi := hh.row i hi
  unfold mergedC
  cases e : h i with
  | none =>
    rw [e] at hr
    have := hgi r hr
    omega
  | some q =>
    rw [e] at hr hhi
    simp only at hr
    split at hr
    · injection hr with hr
      subst hr
      have hm : i ∈ rowsIx h := by unfold rowsIx; simp [hi, e]
      obtain ⟨j, hj, ej⟩ := List.mem_iff_getElem.1 hm
      have hix : ixT h j = i := by simp [ixT, List.getD, hj, ej]
      have h2 := (at_ix h (k := j) hj).2
      rw [hix, e] at h2
      injection h2 with h2
      have h3 := mC_row cnt h (cntT h) j hj
      rw [← h2] at h3
      have := hhi _ rfl
      omega
    · have := hgi r hr
      omega
theorem OkT.none : OkT (fun _ => none) 0 := ⟨by omega, fun i hi r h => by cases h⟩
theorem OkT.upd {g : Nat → Option RW} {cnt nd ref : Int} (h : OkT g cnt) (hn : 1 ≤ nd ∧ nd ≤ 8) (hr : 0 ≤ ref) (i : Nat) : OkT (updT g i ⟨ref, cnt + 1, nd⟩) (cnt + 1) := by
  have h0 := h.c0
  refine ⟨by omega, fun j hj r hr2 => ?_⟩
  unfold updT at hr2
  split at hr2
  · injection hr2 with hr2
    subst hr2
    exact ⟨hr, by show (1:Int) ≤ cnt + 1; omega, Int.le_refl _, hn.1, hn.2⟩
  · have := h.row j hj r hr2
    omega
end Go.Proofs.Ytmjihhjcgkpmhaa
