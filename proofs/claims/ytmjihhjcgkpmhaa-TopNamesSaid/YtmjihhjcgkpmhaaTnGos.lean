/- Gossip, with where the new table lies. -/
import Derived.Test.YtmjihhjcgkpmhaaTnCl
import Derived.Deep.RegionHeld3
namespace Go.Proofs.Ytmjihhjcgkpmhaa
open Go.RowKit Go.Maps
set_option linter.unusedVariables false
set_option maxRecDepth 100000 in
set_option maxHeartbeats 4000000 in
theorem gossip_new (p N ca b1 cb : Nat) (A : Option Addr) (tb mb : Nat → Nat) (cnt : Nat → Int) (G : Nat → Nat → Option RW) (n m : Int) (i j : Nat) (w : World) (H : ClAt w p N A ca b1 cb tb mb cnt G) (hi : i < N) (hj : j < N) (hn : n = (i : Int) + 1) (hm : m = (j : Int) + 1) (hc : cnt i ≤ 1099511627776) :
    Calls Try.prog 7 #[.pointer (some ⟨p, 0, none⟩), .int .i64 n, .int .i64 m] w fun e w' => e = .returned (.int .i64 0) ∧ (∃ m', w.heap.size ≤ m' ∧ ClAt w' p N A ca b1 cb tb (updN mb j m') (updN cnt j (mergedC (cnt j) (G i))) (updN G j (merged (G j) (G i)))) ∧ Fr (fun b => b = tb j) w w' := by
  have h8 := H.n8
  have HT1 := Lib.hid (there_any p N ca A n w H.c0 (by omega) (by omega))
  have HT2 := Lib.hid (there_any p N ca A m w H.c0 (by omega) (by omega))
  have HS := Lib.hid (state_any (tb i) (mb i) _ _ (G i) w.drew (by
    have h := H.tab i hi
    exact ⟨h.c0, h.c1, h.c2, h.fz, h.ne, h.tab.drew⟩))
  have HM := Lib.hid (fun (W : World) (hb : Below w.heap.size w W) (B : Option Addr) (c : Nat) (h1 : cntT (G i) ≤ c) (h2 : c ≤ 9223372036854775807) (hR : Rd W 4 (rwC (G i)) B (cntT (G i))) => merge_any (tb j) (mb j) _ _ (cnt i) (G j) (G i) W ((H.below hb).tab j hj) (H.ok i hi) hc B c h1 h2 hR)
  have HQ := Lib.hid (fun (W w' : World) (hb : Below w.heap.size w W) (m' : Nat) (hm' : W.heap.size ≤ m') (hN : NmAt w' (tb j) ((j : Int) + 1) (mergedC (cnt j) (G i)) m' (merged (G j) (G i))) (hf : Fr (fun b => b = tb j) W w') => show w.heap.size ≤ m' ∧ ClAt w' p N A ca b1 cb tb (updN mb j m') (updN cnt j (mergedC (cnt j) (G i))) (updN G j (merged (G j) (G i))) from And.intro (Nat.le_trans hb.size hm') <| (H.below hb).step hj (hf.weak fun b h => .inl h) hN ((H.ok j hj).merged (H.ok i hi)) (.inr hm'))
  have c1 := H.c1
  have cr1 := H.row i hi
  have cr2 := H.row j hj
  have i3 : (n - 1).toNat = i := by omega
  have i4 : IntKind.i64.wrap (n - 1) = n - 1 := by rw [IntWalk.i64_in _ (by omega)]
  have i5 : (0 : Int) ≤ n - 1 := by omega
  have i6 : n - 1 < (N : Int) := by omega
  have i7 : (1 : Int) ≤ n := by omega
  have j3 : (m - 1).toNat = j := by omega
  have j4 : IntKind.i64.wrap (m - 1) = m - 1 := by rw [IntWalk.i64_in _ (by omega)]
  have j5 : (0 : Int) ≤ m - 1 := by omega
  have j6 : m - 1 < (N : Int) := by omega
  have j7 : (1 : Int) ≤ m := by omega
  have HK := Lib.hid (show (p < w.heap.size ∧ b1 < w.heap.size) ∧ p ≠ tb j ∧ b1 ≠ tb j from ⟨⟨World.block_lt_of_cell? w _ H.c0, World.block_lt_of_cell? w _ cr1⟩, (H.tp j hj).1.symm, (H.tp j hj).2.symm⟩)
  generalize tb i = t1 at HS cr1
  generalize htj : tb j = t2 at HM HQ cr2 HK ⊢
  generalize cntT (G i) = q at HS HM
  clear H hn hm htj
  go_enter Try.func7, Try.ntmps7
  go_wp2_with fail
  refine HT1.out.mono ?_
  rintro e w1 ⟨rfl, rfl⟩
  go_wp2_with fail
  refine HT2.out.mono ?_
  rintro e w2 ⟨rfl, rfl⟩
  go_wp2_with fail
  have z1 : w2.drew.cell? ⟨p, 1, none⟩ = some (.slice (some ⟨b1, 0, none⟩) N cb) := c1
  have z2 : w2.drew.cell? ⟨b1, i, none⟩ = some (.pointer (some ⟨t1, 0, none⟩)) := cr1
  have z3 : w2.drew.cell? ⟨b1, j, none⟩ = some (.pointer (some ⟨t2, 0, none⟩)) := cr2
  go_region_held3 (fun W => W.cell? ⟨p, 1, none⟩ = some (.slice (some ⟨b1, 0, none⟩) N cb) ∧ W.cell? ⟨b1, i, none⟩ = some (.pointer (some ⟨t1, 0, none⟩)) ∧ W.cell? ⟨b1, j, none⟩ = some (.pointer (some ⟨t2, 0, none⟩)))
    (first | exact ⟨z1, z2, z3⟩ | exact ⟨y1, y2, y3⟩ | exact ⟨x1, x2, x3⟩ | go_keep)
    (first
      | (go_at_call 17; refine HS.out.mono ?_; rintro e wa ⟨v, rfl, hO, hba⟩; have HBA := Lib.hid (show Below w2.heap.size w2 wa from below_drew' hba); obtain ⟨B, c, rfl, hq1, hq2, _⟩ := own_any hO; have HRD := Lib.hid (Rd.of_own (fun k => rwC_len _ k) hO); have y1 := (HBA.out.cell (p := ⟨p, 1, none⟩) HK.out.1.1).trans c1; have y2 := (HBA.out.cell (p := ⟨b1, i, none⟩) HK.out.1.2).trans cr1; have y3 := (HBA.out.cell (p := ⟨b1, j, none⟩) HK.out.1.2).trans cr2; clear hO hba)
      | (go_at_call 16; refine (HM.out wa HBA.out B c hq1 hq2 HRD.out).mono ?_; rintro e wb ⟨rfl, ⟨m', hm', hN⟩, hf⟩; have HN := Lib.hid (HQ.out wa wb HBA.out m' hm' hN hf); have HFR := Lib.hid ((Fr.of_below HBA.out).trans' hf); have x1 := hf.cell y1 HK.out.2.1; have x2 := hf.cell y2 HK.out.2.2; have x3 := hf.cell y3 HK.out.2.2; clear hN hf hm'))
  all_goals
    go_wp2_with fail
    go_ret
    exact ⟨rfl, ⟨_, HN.out⟩, HFR.out⟩
end Go.Proofs.Ytmjihhjcgkpmhaa
