/- A cluster's registries: Name, Gossip, Find. -/
import Derived.Test.YtmjihhjcgkpmhaaNmMerge
import Derived.Deep.RegionHeld3
namespace Go.Proofs.Ytmjihhjcgkpmhaa
open Go.RowKit Go.Maps
set_option linter.unusedVariables false
def updN {α : Type} (f : Nat → α) (i : Nat) (v : α) : Nat → α := fun j => if j = i then v else f j
theorem updN_self {α : Type} (f : Nat → α) (i : Nat) (v : α) : updN f i v i = v := by simp [updN]
theorem updN_ne {α : Type} (f : Nat → α) {i j : Nat} (v : α) (h : j ≠ i) : updN f i v j = f j := by simp [updN, h]
/-- a cluster at block p: N nodes, the registries' blocks tb and mb, their counts and rows -/
structure ClAt (w : World) (p N : Nat) (A : Option Addr) (ca b1 cb : Nat) (tb mb : Nat → Nat) (cnt : Nat → Int) (G : Nat → Nat → Option RW) : Prop where
  n8 : N ≤ 8
  c0 : w.cell? ⟨p, 0, none⟩ = some (.slice A N ca)
  c1 : w.cell? ⟨p, 1, none⟩ = some (.slice (some ⟨b1, 0, none⟩) N cb)
  row : ∀ i, i < N → w.cell? ⟨b1, i, none⟩ = some (.pointer (some ⟨tb i, 0, none⟩))
  tab : ∀ i, i < N → NmAt w (tb i) ((i : Int) + 1) (cnt i) (mb i) (G i)
  ok : ∀ i, i < N → OkT (G i) (cnt i)
  tt : ∀ i, i < N → ∀ j, j < N → tb i = tb j → i = j
  mm : ∀ i, i < N → ∀ j, j < N → mb i = mb j → i = j
  tm : ∀ i, i < N → ∀ j, j < N → tb i ≠ mb j
  tp : ∀ i, i < N → tb i ≠ p ∧ tb i ≠ b1
  mp : ∀ i, i < N → mb i ≠ p ∧ mb i ≠ b1
section
variable {w w' : World} {p N ca b1 cb : Nat} {A : Option Addr} {tb mb : Nat → Nat} {cnt : Nat → Int} {G : Nat → Nat → Option RW}
theorem ClAt.below (H : ClAt w p N A ca b1 cb tb mb cnt G) (hb : Below w.heap.size w w') : ClAt w' p N A ca b1 cb tb mb cnt G := by
  have hf : Fr (fun _ => False) w w' := Fr.of_below hb
  exact ⟨H.n8, hf.cell H.c0 (fun h => h), hf.cell H.c1 (fun h => h), fun i hi => hf.cell (H.row i hi) (fun h => h), fun i hi => (H.tab i hi).fr hf (fun h => h) (fun h => h), H.ok, H.tt, H.mm, H.tm, H.tp, H.mp⟩
theorem ClAt.step (H : ClAt w p N A ca b1 cb tb mb cnt G) {i m' : Nat} {cnt' : Int} {g' : Nat → Option RW} (hi : i < N) (hf : Fr (fun b => b = tb i ∨ b = mb i) w w') (hN : NmAt w' (tb i) ((i : Int) + 1) cnt' m' g') (ho : OkT g' cnt') (hm : m' = mb i ∨ w.heap.size ≤ m') : ClAt w' p N A ca b1 cb tb (updN mb i m') (updN cnt i cnt') (updN G i g') := by
  have hp : p < w.heap.size := World.block_lt_of_cell? w _ H.c0
  have hb1 : b1 < w.heap.size := World.block_lt_of_cell? w _ (H.row i hi)
  have hml : ∀ j, j < N → mb j < w.heap.size := fun j hj => (H.tab j hj).tab.lt
  have htl : ∀ j, j < N → tb j < w.heap.size := fun j hj => (H.tab j hj).lt
  refine ⟨H.n8, hf.cell H.c0 ?_, hf.cell H.c1 ?_, fun j hj => hf.cell (H.row j hj) ?_, fun j hj => ?_, fun j hj => ?_, H.tt, fun j hj k hk e => ?_, fun j hj k hk => ?_, H.tp, fun j hj => ?_⟩
  · rintro (h | h)
    · exact (H.tp i hi).1 h.symm
    · exact (H.mp i hi).1 h.symm
  · rintro (h | h)
    · exact (H.tp i hi).1 h.symm
    · exact (H.mp i hi).1 h.symm
  · rintro (h | h)
    · exact (H.tp i hi).2 h.symm
    · exact (H.mp i hi).2 h.symm
  · by_cases e : j = i
    · subst e
      rw [updN_self, updN_self, updN_self]
      exact hN
    · rw [updN_ne _ _ e, updN_ne _ _ e, updN_ne _ _ e]
      refine (H.tab j hj).fr hf ?_ ?_
      · rintro (h | h)
        · exact e (H.tt _ hj _ hi h)
        · exact H.tm _ hj _ hi h
      · rintro (h | h)
        · exact H.tm _ hi _ hj h.symm
        · exact e (H.mm _ hj _ hi h)
  · by_cases e : j = i
    · subst e
      rw [updN_self, updN_self]
      exact ho
    · rw [updN_ne _ _ e, updN_ne _ _ e]
      exact H.ok j hj
  · by_cases e1 : j = i
    · by_cases e2 : k = i
      · omega
      · rw [e1, updN_self, updN_ne _ _ e2] at e
        rcases hm with h | h
        · rw [h] at e
          have := H.mm _ hi _ hk e
          omega
        · have := hml k hk; omega
    · by_cases e2 : k = i
      · rw [e2, updN_self, updN_ne _ _ e1] at e
        rcases hm with h | h
        · rw [h] at e
          have := H.mm _ hj _ hi e
          omega
        · have := hml j hj; omega
      · rw [updN_ne _ _ e1, updN_ne _ _ e2] at e
        exact H.mm _ hj _ hk e
  · by_cases e2 : k = i
    · rw [e2, updN_self]
      rcases hm with h | h
      · rw [h]; exact H.tm _ hj _ hi
      · have := htl j hj; omega
    · rw [updN_ne _ _ e2]
      exact H.tm _ hj _ hk
  · by_cases e2 : j = i
    · rw [e2, updN_self]
      rcases hm with h | h
      · rw [h]; exact H.mp _ hi
      · exact ⟨by omega, by omega⟩
    · rw [updN_ne _ _ e2]
      exact H.mp _ hj
end
set_option maxRecDepth 100000 in
set_option maxHeartbeats 4000000 in
theorem there_any (p N ca : Nat) (A : Option Addr) (n : Int) (w : World) (c0 : w.cell? ⟨p, 0, none⟩ = some (.slice A N ca)) (h1 : 1 ≤ n) (h2 : n ≤ (N : Int)) :
    Calls Try.prog 13 #[.pointer (some ⟨p, 0, none⟩), .int .i64 n] w fun e w' => e = .returned (.bool true) ∧ w' = w := by
  have d1 : decide (1 ≤ n) = true := decide_eq_true h1
  have d2 : decide (n ≤ (N : Int)) = true := decide_eq_true h2
  go_enter Try.func13, Try.ntmps13
  go_wp2_with fail
  go_ret
  exact ⟨rfl, rfl⟩
set_option maxRecDepth 100000 in
set_option maxHeartbeats 4000000 in
theorem cfind_any (p N ca b1 cb : Nat) (A : Option Addr) (tb mb : Nat → Nat) (cnt : Nat → Int) (G : Nat → Nat → Option RW) (n : Int) (i k : Nat) (w : World) (H : ClAt w p N A ca b1 cb tb mb cnt G) (hi : i < N) (hn : n = (i : Int) + 1) (hk : k < 4) :
    Calls Try.prog 8 #[.pointer (some ⟨p, 0, none⟩), .int .i64 n, .string (nmS k)] w fun e w' => e = .returned (.tuple #[.int .i64 (findG (G i) k).1, .int .i64 (findG (G i) k).2]) ∧ Below w.heap.size w w' := by
  have h8 := H.n8
  have HT := Lib.hid (there_any p N ca A n w H.c0 (by omega) (by omega))
  have HF := Lib.hid (find_any (tb i) (mb i) _ _ (G i) k hk w (H.tab i hi))
  have c1 := H.c1
  have cr := H.row i hi
  have i3 : (n - 1).toNat = i := by omega
  have i4 : IntKind.i64.wrap (n - 1) = n - 1 := by rw [IntWalk.i64_in _ (by omega)]
  have i5 : (0 : Int) ≤ n - 1 := by omega
  have i6 : n - 1 < (N : Int) := by omega
  have i7 : (1 : Int) ≤ n := by omega
  generalize tb i = t at HF cr
  generalize findG (G i) k = f at HF ⊢
  generalize nmS k = x at HF ⊢
  clear H hn
  go_enter Try.func8, Try.ntmps8
  go_wp2_with fail
  refine HT.out.mono ?_
  rintro e w1 ⟨rfl, rfl⟩
  go_wp2_with fail
  refine HF.out.mono ?_
  rintro e w2 ⟨rfl, hb⟩
  have HB := Lib.hid hb
  clear hb
  go_wp2_with fail
  refine bodyPost_ret (v := .tuple #[.int .i64 f.1, .int .i64 f.2]) (by simp [results, Try.results8, go_sem]) rfl ⟨rfl, HB.out⟩
set_option maxRecDepth 100000 in
set_option maxHeartbeats 4000000 in
theorem cset_any (p N ca b1 cb : Nat) (A : Option Addr) (tb mb : Nat → Nat) (cnt : Nat → Int) (G : Nat → Nat → Option RW) (n ref : Int) (i k : Nat) (w : World) (H : ClAt w p N A ca b1 cb tb mb cnt G) (hi : i < N) (hn : n = (i : Int) + 1) (hk : k < 4) (hr : 1 ≤ ref) (hc : cnt i < 1099511627776) :
    Calls Try.prog 6 #[.pointer (some ⟨p, 0, none⟩), .int .i64 n, .string (nmS k), .int .i64 ref] w fun e w' => e = .returned (.int .i64 0) ∧ ClAt w' p N A ca b1 cb tb mb (updN cnt i (cnt i + 1)) (updN G i (updT (G i) k ⟨ref, cnt i + 1, (i : Int) + 1⟩)) ∧ Fr (fun b => b = tb i ∨ b = mb i) w w' := by
  have h8 := H.n8
  have HT := Lib.hid (there_any p N ca A n w H.c0 (by omega) (by omega))
  have HF := Lib.hid (set_any (tb i) (mb i) _ _ ref (G i) k hk w (H.tab i hi) (H.ok i hi).c0 hc hr)
  have HQ := Lib.hid (fun (w' : World) (hN : NmAt w' (tb i) ((i : Int) + 1) (cnt i + 1) (mb i) (updT (G i) k ⟨ref, cnt i + 1, (i : Int) + 1⟩)) (hf : Fr (fun b => b = tb i ∨ b = mb i) w w') => show ClAt w' p N A ca b1 cb tb mb (updN cnt i (cnt i + 1)) (updN G i (updT (G i) k ⟨ref, cnt i + 1, (i : Int) + 1⟩)) from by
    have h := H.step hi hf hN ((H.ok i hi).upd ⟨by omega, by omega⟩ (by omega) k) (.inl rfl)
    have e : updN mb i (mb i) = mb := by
      funext j
      unfold updN
      split
      · rename_i e; rw [e]
      · rfl
    rw [e] at h
    exact h)
  have c1 := H.c1
  have cr := H.row i hi
  have i3 : (n - 1).toNat = i := by omega
  have i4 : IntKind.i64.wrap (n - 1) = n - 1 := by rw [IntWalk.i64_in _ (by omega)]
  have i5 : (0 : Int) ≤ n - 1 := by omega
  have i6 : n - 1 < (N : Int) := by omega
  have i7 : (1 : Int) ≤ n := by omega
  have hr0 : (ref == 0) = false := by simp only [beq_eq_false_iff_ne, ne_eq]; omega
  generalize tb i = t at HF cr HQ ⊢
  generalize nmS k = x at HF ⊢
  clear H hn
  go_enter Try.func6, Try.ntmps6
  go_wp2_with fail
  refine HT.out.mono ?_
  rintro e w1 ⟨rfl, rfl⟩
  go_wp2_with fail
  refine HF.out.mono ?_
  rintro e w2 ⟨rfl, hN, hf⟩
  have HN := Lib.hid hN
  have HFR := Lib.hid hf
  clear hN hf
  go_wp2_with fail
  go_ret
  exact ⟨rfl, HQ.out _ HN.out HFR.out, HFR.out⟩
theorem OkT.drop {g : Nat → Option RW} {cnt nd : Int} (h : OkT g cnt) (hn : 1 ≤ nd ∧ nd ≤ 8) (i : Nat) : OkT (dropG g cnt nd i).1 (dropG g cnt nd i).2 := by
  unfold dropG
  split
  · exact h.upd hn (by omega) i
  · exact h
set_option maxRecDepth 100000 in
set_option maxHeartbeats 4000000 in
theorem cdrop_any (p N ca b1 cb : Nat) (A : Option Addr) (tb mb : Nat → Nat) (cnt : Nat → Int) (G : Nat → Nat → Option RW) (n : Int) (i k : Nat) (w : World) (H : ClAt w p N A ca b1 cb tb mb cnt G) (hi : i < N) (hn : n = (i : Int) + 1) (hk : k < 4) (hc : cnt i < 1099511627776) :
    Calls Try.prog 6 #[.pointer (some ⟨p, 0, none⟩), .int .i64 n, .string (nmS k), .int .i64 0] w fun e w' => ∃ x : Int, e = .returned (.int .i64 x) ∧ ClAt w' p N A ca b1 cb tb mb (updN cnt i (dropG (G i) (cnt i) ((i : Int) + 1) k).2) (updN G i (dropG (G i) (cnt i) ((i : Int) + 1) k).1) ∧ Fr (fun b => b = tb i ∨ b = mb i) w w' := by
  have h8 := H.n8
  have HT := Lib.hid (there_any p N ca A n w H.c0 (by omega) (by omega))
  have HF := Lib.hid (drop_any (tb i) (mb i) _ _ (G i) k hk w (H.tab i hi) (H.ok i hi).c0 hc)
  have HQ := Lib.hid (fun (w' : World) (hN : NmAt w' (tb i) ((i : Int) + 1) (dropG (G i) (cnt i) ((i : Int) + 1) k).2 (mb i) (dropG (G i) (cnt i) ((i : Int) + 1) k).1) (hf : Fr (fun b => b = tb i ∨ b = mb i) w w') => show ClAt w' p N A ca b1 cb tb mb (updN cnt i (dropG (G i) (cnt i) ((i : Int) + 1) k).2) (updN G i (dropG (G i) (cnt i) ((i : Int) + 1) k).1) from by
    have h := H.step hi hf hN ((H.ok i hi).drop ⟨by omega, by omega⟩ k) (.inl rfl)
    have e : updN mb i (mb i) = mb := by
      funext j
      unfold updN
      split
      · rename_i e; rw [e]
      · rfl
    rw [e] at h
    exact h)
  have c1 := H.c1
  have cr := H.row i hi
  have i3 : (n - 1).toNat = i := by omega
  have i4 : IntKind.i64.wrap (n - 1) = n - 1 := by rw [IntWalk.i64_in _ (by omega)]
  have i5 : (0 : Int) ≤ n - 1 := by omega
  have i6 : n - 1 < (N : Int) := by omega
  have i7 : (1 : Int) ≤ n := by omega
  generalize tb i = t at HF cr HQ ⊢
  generalize nmS k = x at HF ⊢
  clear H hn
  go_enter Try.func6, Try.ntmps6
  go_wp2_with fail
  refine HT.out.mono ?_
  rintro e w1 ⟨rfl, rfl⟩
  go_wp2_with fail
  refine HF.out.mono ?_
  rintro e w2 ⟨y, rfl, hN, hf⟩
  have HN := Lib.hid hN
  have HFR := Lib.hid hf
  clear hN hf
  go_wp2_with fail
  go_ret
  exact ⟨_, rfl, HQ.out _ HN.out HFR.out, HFR.out⟩
set_option maxRecDepth 100000 in
set_option maxHeartbeats 4000000 in
theorem gossip_any (p N ca b1 cb : Nat) (A : Option Addr) (tb mb : Nat → Nat) (cnt : Nat → Int) (G : Nat → Nat → Option RW) (n m : Int) (i j : Nat) (w : World) (H : ClAt w p N A ca b1 cb tb mb cnt G) (hi : i < N) (hj : j < N) (hn : n = (i : Int) + 1) (hm : m = (j : Int) + 1) (hc : cnt i ≤ 1099511627776) :
    Calls Try.prog 7 #[.pointer (some ⟨p, 0, none⟩), .int .i64 n, .int .i64 m] w fun e w' => e = .returned (.int .i64 0) ∧ (∃ m', ClAt w' p N A ca b1 cb tb (updN mb j m') (updN cnt j (mergedC (cnt j) (G i))) (updN G j (merged (G j) (G i)))) ∧ Fr (fun b => b = tb j) w w' := by
  have h8 := H.n8
  have HT1 := Lib.hid (there_any p N ca A n w H.c0 (by omega) (by omega))
  have HT2 := Lib.hid (there_any p N ca A m w H.c0 (by omega) (by omega))
  have HS := Lib.hid (state_any (tb i) (mb i) _ _ (G i) w.drew (by
    have h := H.tab i hi
    exact ⟨h.c0, h.c1, h.c2, h.fz, h.ne, h.tab.drew⟩))
  have HM := Lib.hid (fun (W : World) (hb : Below w.heap.size w W) (B : Option Addr) (c : Nat) (h1 : cntT (G i) ≤ c) (h2 : c ≤ 9223372036854775807) (hR : Rd W 4 (rwC (G i)) B (cntT (G i))) => merge_any (tb j) (mb j) _ _ (cnt i) (G j) (G i) W ((H.below hb).tab j hj) (H.ok i hi) hc B c h1 h2 hR)
  have HQ := Lib.hid (fun (W w' : World) (hb : Below w.heap.size w W) (m' : Nat) (hm' : W.heap.size ≤ m') (hN : NmAt w' (tb j) ((j : Int) + 1) (mergedC (cnt j) (G i)) m' (merged (G j) (G i))) (hf : Fr (fun b => b = tb j) W w') => show ClAt w' p N A ca b1 cb tb (updN mb j m') (updN cnt j (mergedC (cnt j) (G i))) (updN G j (merged (G j) (G i))) from (H.below hb).step hj (hf.weak fun b h => .inl h) hN ((H.ok j hj).merged (H.ok i hi)) (.inr hm'))
  have c1 := H.c1
  have cr1 := H.row i hi
  have cr2 := H.row j hj
  have i3 : (n - 1).toNat = i := by omega
  have i4 : IntKind.i64.wrap (n - 1) = n - 1 := by rw [IntWalk.i64_in _ (by omega)]
  have i5 : (0 : Int) ≤ n - 1 := by omega
  have i6 : n - 1 < (N : Int) := by omega
  have i7 : (1 : Int) ≤ n := by omega
  have j3 : (m - 1).toNat = j := by omega
  have j4 : IntKind.i64.wrap (m - 1) = m - 1 := by rw [IntWalk.i64_in _ (by omega)]
  have j5 : (0 : Int) ≤ m - 1 := by omega
  have j6 : m - 1 < (N : Int) := by omega
  have j7 : (1 : Int) ≤ m := by omega
  have HK := Lib.hid (show (p < w.heap.size ∧ b1 < w.heap.size) ∧ p ≠ tb j ∧ b1 ≠ tb j from ⟨⟨World.block_lt_of_cell? w _ H.c0, World.block_lt_of_cell? w _ cr1⟩, (H.tp j hj).1.symm, (H.tp j hj).2.symm⟩)
  generalize tb i = t1 at HS cr1
  generalize htj : tb j = t2 at HM HQ cr2 HK ⊢
  generalize cntT (G i) = q at HS HM
  clear H hn hm htj
  go_enter Try.func7, Try.ntmps7
  go_wp2_with fail
  refine HT1.out.mono ?_
  rintro e w1 ⟨rfl, rfl⟩
  go_wp2_with fail
  refine HT2.out.mono ?_
  rintro e w2 ⟨rfl, rfl⟩
  go_wp2_with fail
  have z1 : w2.drew.cell? ⟨p, 1, none⟩ = some (.slice (some ⟨b1, 0, none⟩) N cb) := c1
  have z2 : w2.drew.cell? ⟨b1, i, none⟩ = some (.pointer (some ⟨t1, 0, none⟩)) := cr1
  have z3 : w2.drew.cell? ⟨b1, j, none⟩ = some (.pointer (some ⟨t2, 0, none⟩)) := cr2
  go_region_held3 (fun W => W.cell? ⟨p, 1, none⟩ = some (.slice (some ⟨b1, 0, none⟩) N cb) ∧ W.cell? ⟨b1, i, none⟩ = some (.pointer (some ⟨t1, 0, none⟩)) ∧ W.cell? ⟨b1, j, none⟩ = some (.pointer (some ⟨t2, 0, none⟩)))
    (first | exact ⟨z1, z2, z3⟩ | exact ⟨y1, y2, y3⟩ | exact ⟨x1, x2, x3⟩ | go_keep)
    (first
      | (go_at_call 17; refine HS.out.mono ?_; rintro e wa ⟨v, rfl, hO, hba⟩; have HBA := Lib.hid (show Below w2.heap.size w2 wa from below_drew' hba); obtain ⟨B, c, rfl, hq1, hq2, _⟩ := own_any hO; have HRD := Lib.hid (Rd.of_own (fun k => rwC_len _ k) hO); have y1 := (HBA.out.cell (p := ⟨p, 1, none⟩) HK.out.1.1).trans c1; have y2 := (HBA.out.cell (p := ⟨b1, i, none⟩) HK.out.1.2).trans cr1; have y3 := (HBA.out.cell (p := ⟨b1, j, none⟩) HK.out.1.2).trans cr2; clear hO hba)
      | (go_at_call 16; refine (HM.out wa HBA.out B c hq1 hq2 HRD.out).mono ?_; rintro e wb ⟨rfl, ⟨m', hm', hN⟩, hf⟩; have HN := Lib.hid (HQ.out wa wb HBA.out m' hm' hN hf); have HFR := Lib.hid ((Fr.of_below HBA.out).trans' hf); have x1 := hf.cell y1 HK.out.2.1; have x2 := hf.cell y2 HK.out.2.2; have x3 := hf.cell y3 HK.out.2.2; clear hN hf hm'))
  all_goals
    go_wp2_with fail
    go_ret
    exact ⟨rfl, ⟨_, HN.out⟩, HFR.out⟩
end Go.Proofs.Ytmjihhjcgkpmhaa
