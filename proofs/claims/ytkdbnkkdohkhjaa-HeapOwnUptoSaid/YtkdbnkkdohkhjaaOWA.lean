/- young.Minor. Contracts of package blob: find and Check. Contracts of package blob: Clone, held, Get, Let, Size, Hold. Contracts of package blob: Let. Contracts of package blob: Hold. Contracts of package blob: Hold of a text in a new entry, and Hold of a full store. What heap.Put, carry.Over, Minor, Major, Set, Hold and Let yield, whatever they are given: new rows. The closure of HeapOwn: all is as it was. The loops of HeapOwn: what the calls yielded is written over. Heaps, objects and values as arguments of a law in its second form. Ages, words, stores and texts as arguments of a law in its second form. A region that draws its order, by an invariant over what has been done. Rows that are cloned into boxes by one statement: what has been done so far, in any order. -/
import Derived.Test.YtkdbnkkdohkhjaaYMA
import Derived.Test.YtkdbnkkdohkhjaaVoc
import Derived.Deep.RegionHeld3
import Derived.WalkSmall
import Derived.Deep.QuietTactic
import Derived.BigQuiet
import Derived.Test.YtkdbnkkdohkhjaaCarryOver
import Derived.Test.YtkdbnkkdohkhjaaHeapObsPlain
import Derived.Test.YtkdbnkkdohkhjaaKeep
import Derived.Test.YtkdbnkkdohkhjaaRow
namespace Go.Proofs.Ytkdbnkkdohkhjaa
open Go.RowKit
set_option linter.unusedVariables false
def MinYes (h : List Nat) (old : Int) (late : List Int) (roots : List Nat) (w : World) (e : Ending) (w' : World) : Prop := ∃ l kf K A c B d, OkA h old late l ∧ kf ≤ l.length ∧ old = ((posO l kf : Nat) : Int) ∧ (∀ p ∈ roots, wordOk l p) ∧ RK l ((posO l kf : Nat) : Int) (roots ++ ltW h late late.length) K [] ∧ e = .returned (.tuple #[.agg #[.slice A (flatO (gcL l kf K late)).length c, .int .i64 (((flatO (gcL l kf K late)).length : Nat) : Int), .slice none 0 0], .slice B roots.length d, .int .i64 0]) ∧
  OwnU w' w.heap.size (.slice A (flatO (gcL l kf K late)).length c) (flatO (gcL l kf K late)) ∧ OwnU w' w.heap.size (.slice B roots.length d) (roots.map (mv (gcP l kf K))) ∧ Below w.heap.size w w' ∧ ∀ k, (Value.slice A (flatO (gcL l kf K late)).length c).ownBlock = some k → (Value.slice B roots.length d).ownBlock ≠ some k
theorem minor_results {tmps : Array Value} {wz : World} {H : Nat} {u0 u1 u2 v5 v6 : Value} (t4 : tmps.getD 4 undef = .pointer (some ⟨H, 0, none⟩)) (t5 : tmps.getD 5 undef = v5) (t6 : tmps.getD 6 undef = v6)
    (z0 : wz.cell? ⟨H, 0, none⟩ = some u0) (z1 : wz.cell? ⟨H, 1, none⟩ = some u1) (z2 : wz.cell? ⟨H, 2, none⟩ = some u2) :
    (results Try.f18 tmps).run Try.prog wz = .ok (.tuple #[.agg #[u0, u1, u2], v5, v6]) wz := by
  simp only [Array.getD_eq_getD_getElem?] at t4 t5 t6
  simp [results, Try.results18, go_sem, t4, t5, t6, z0, z1, z2]
set_option maxHeartbeats 8000000 in
set_option maxRecDepth 100000 in
theorem minor_any (h roots : List Nat) (hA lA rA : Option Addr) (hc lc rc : Nat) (old : Int) (late : List Int) (w : World) (hH : Su w (.slice hA h.length hc) h) (h64 : All64 h) (hlen : h.length ≤ 17592186044416) (hL : Rd w 1 (tmC (lst late)) lA late.length) (hll : late.length ≤ 17592186044416) (hwl : ∀ x ∈ late, Wf x) (hwo : Wf old) (hR : Su w (.slice rA roots.length rc) roots) (r64 : All64 roots) (hrl : roots.length ≤ 100000) :
    Calls Try.prog 18 #[.agg #[.slice hA h.length hc, .int .i64 old, .slice lA late.length lc], .slice rA roots.length rc] w fun e w' => MinYes h old late roots w e w' ∨ GcNo h old late roots w e w' := by
  have HH := Lib.hid hH
  have H64 := Lib.hid h64
  have HL := Lib.hid hL
  have HWL := Lib.hid hwl
  have HWO := Lib.hid hwo
  have HR := Lib.hid hR
  have HR64 := Lib.hid r64
  clear hH h64 hL hwl hwo hR r64
  obtain ⟨W1, hW1⟩ : ∃ W1, W1 = (w.alloc (.cells #[.slice hA h.length hc, .int .i64 old, .slice lA late.length lc] 26)).alloc (.cells #[.slice none 0 0, .int .i64 0, .slice none 0 0] 26) := ⟨_, rfl⟩
  have HB1 := Lib.hid (show Below w.heap.size w W1 by rw [hW1]; exact ((Below.refl _ _).alloc (Nat.le_refl _) _).alloc (by simp) _)
  have HZ1 := Lib.hid (show W1.heap.size = w.heap.size + 2 by rw [hW1]; simp)
  have HAG := Lib.hid (show AgB W1 w.heap.size hA h.length hc old lA late.length lc from by
    rw [hW1]
    exact (AgB.new w hA h.length hc old lA late.length lc 26).below ((Below.refl _ _).alloc (Nat.le_refl _) _))
  have HBOX := Lib.hid (show AgB W1 (w.heap.size + 1) none 0 0 0 none 0 0 ∧ ∀ o, W1.frozen? ⟨w.heap.size + 1, o, none⟩ = false from by
    rw [hW1]
    have h1 := AgB.new (w.alloc (.cells #[.slice hA h.length hc, .int .i64 old, .slice lA late.length lc] 26)) none 0 0 0 none 0 0 26
    have h2 : (w.alloc (.cells #[.slice hA h.length hc, .int .i64 old, .slice lA late.length lc] 26)).heap.size = w.heap.size + 1 := by simp
    rw [h2] at h1
    exact ⟨h1, fun o => by simp [go_sem]⟩)
  obtain ⟨a0, a1, a2, a3⟩ := HAG.out
  go_enter Try.func18, Try.ntmps18
  go_wp2_with fail
  rw [← hW1]
  clear hW1
  refine (started_any h roots hA lA rA hc lc rc old late W1 (HH.out.below HB1.out) H64.out hlen (HL.out.below HB1.out) hll HWL.out HWO.out (HR.out.below HB1.out) HR64.out (by omega)).mono ?_
  rintro e w2 (⟨l, mb, C, hok, hro, rfl, hidx, hmb, hb⟩ | ⟨hno, x, hx, rfl, hb⟩)
  · have HB2 := Lib.hid hb
    have HB02 := Lib.hid (HB1.out.trans (hb.mono HB1.out.size))
    have hz2 := hb.size
    have HOK := Lib.hid hok
    have HRO := Lib.hid hro
    have HIT := Lib.hid (IdxT.of hidx)
    have HAG2 := Lib.hid (HAG.out.below hb)
    have HBX2 := Lib.hid (HBOX.out.1.below hb)
    have HFZ := Lib.hid (show ∀ o, w2.frozen? ⟨w.heap.size + 1, o, none⟩ = false from fun o => (grown_frozen (grown_below (g := none) hb) (by have := HZ1.out; omega) (by simp)).trans (HBOX.out.2 o))
    have hzz := HZ1.out
    have HZ2 := Lib.hid (show w.heap.size + 2 ≤ w2.heap.size by omega)
    have HRB := Lib.hid (show 0 < roots.length → ∀ k, (Value.slice rA roots.length rc).ownBlock = some k → k < w.heap.size from fun h0 k hk => by
      obtain ⟨A', c', e, _, _, _, h4⟩ := HR.out
      injection e with e1 _ _
      subst e1
      obtain ⟨b, off, rfl, hb', _⟩ := h4 h0
      injection hk with hk
      subst hk
      exact hb')
    have HLB := Lib.hid (show 0 < late.length → ∀ k, (Value.slice lA late.length lc).ownBlock = some k → k < w.heap.size from fun h0 k hk => by
      obtain ⟨b, off, rfl, hb', _⟩ := HL.out h0
      injection hk with hk
      subst hk
      exact hb')
    have HLF := Lib.hid (late_few hok)
    clear hb hok hro hidx a0 a1 a2 a3 hmb hzz hz2
    go_wp2_with fail
    refine (cloneU_any rA rc roots w2 (HR.out.below HB02.out) (by omega)).mono ?_
    rintro e w3 ⟨A3, c3, rfl, ho3, hb3⟩
    have HO3 := Lib.hid ho3
    have HB3 := Lib.hid hb3
    obtain ⟨a0, a1, a2, a3⟩ := HAG2.out.below hb3
    clear ho3 hb3
    go_wp2_with fail
    go_loopw [9, 11, 29] (fun x9 _ x29 wr => ∃ (i : Nat) (A : Option Addr) (d : Nat), i ≤ late.length ∧ x29 = .int .i64 (i : Int) ∧ x9 = .slice A (roots ++ ltW h late i).length d ∧ OwnU wr w2.heap.size (.slice A (roots ++ ltW h late i).length d) (roots ++ ltW h late i) ∧ Below w2.heap.size w2 wr) (fun _ _ x29 _ => late.length - (intOf x29).toNat)
    case atStart => exact ⟨0, A3, c3, Nat.zero_le _, rfl, by rw [ltW_zero, List.append_nil], by rw [ltW_zero, List.append_nil]; exact HO3.out, HB3.out⟩
    case round =>
      obtain ⟨i, A, d, hi, rfl, rfl, hOi, hBi⟩ := hrel
      have HOi := Lib.hid hOi
      have HBi := Lib.hid hBi
      have HBwi := Lib.hid (HB02.out.trans (hBi.mono HB02.out.size))
      have hzi := hBi.size
      obtain ⟨a0, a1, a2, a3⟩ := HAG2.out.below hBi
      have HIi := Lib.hid (HIT.out.below hBi)
      clear hOi hBi
      by_cases hlt : i < late.length
      · obtain ⟨x, hx⟩ : ∃ x, late[i]? = some x := ⟨_, List.getElem?_eq_getElem hlt⟩
        have hlx : lst late i = x := by simp [lst, hx]
        obtain ⟨bL, oL, rfl, hbL, hcL⟩ := HL.out (by omega)
        have hcx := hcL i hlt 0 _ rfl
        simp only [Nat.mul_one, Nat.add_zero] at hcx
        rw [hlx] at hcx
        have cx : wr.cell? ⟨bL, oL + i, none⟩ = some (.int .i64 x) := (HBwi.out.cell (p := ⟨bL, _, none⟩) hbL).trans hcx
        have hwx : Wf x := HWL.out x (List.mem_of_getElem? hx)
        have HLEN := Lib.hid (ltW_len HOK.out (i + 1) (by omega)).1
        have HSUC := Lib.hid (ltW_succ (h := h) hx)
        obtain ⟨k0, o0, hk0, hxk0, hpa⟩ := late_at HOK.out hx
        have HLOOK := Lib.hid (HIi.out.idx.look hwx)
        rcases HIi.out.idx.look hwx with ⟨k, o, pA, pc, hk, hxk, hOp, hlk, -⟩ | ⟨hno, -, -⟩
        · have hkk : k = k0 := posO_inj (List.getElem?_eq_some_iff.1 hk).1 (List.getElem?_eq_some_iff.1 hk0).1 (by omega)
          subst hkk
          rw [hk] at hk0
          injection hk0 with hk0
          subst hk0
          rw [hpa] at HSUC
          have HPO := Lib.hid hOp
          have HPU := Lib.hid (Su.of_own hOp)
          obtain ⟨pp, hpp⟩ : ∃ pp, o.parts = pp := ⟨_, rfl⟩
          obtain ⟨kd, hkd⟩ : ∃ kd, o.kind = kd := ⟨_, rfl⟩
          obtain ⟨nm, hnm⟩ : ∃ nm, o.num = nm := ⟨_, rfl⟩
          obtain ⟨tx, htx⟩ : ∃ tx, o.text = tx := ⟨_, rfl⟩
          rw [hkd, hnm, htx, hpp] at hlk
          rw [hpp] at HPU HSUC
          have hfld : ∀ w, (Instr.field 33 (.agg #[.int .i64 x, .int .i64 kd, .int .i64 nm, .string tx, .slice pA pp.length pc]) 4).run Try.prog w = .ok (.slice pA pp.length pc) w := fun w => field4 _ _ _ _ _ _ _ w
          obtain ⟨Li, hLi⟩ : ∃ Li, roots ++ ltW h late i = Li := ⟨_, rfl⟩
          have HLi := Lib.hid (show roots ++ ltW h late (i + 1) = Li ++ pp by rw [HSUC.out, ← List.append_assoc, hLi])
          have HLL := Lib.hid (show Li.length + pp.length ≤ 1000000 by
            rw [← List.length_append, ← HLi.out, List.length_append]
            have := HLEN.out
            omega)
          rw [hLi] at HOi
          rw [hLi]
          have j0 : (0 : Int) ≤ (i : Int) := by omega
          have j1 : (i : Int) < (late.length : Int) := by omega
          clear hcL hlx hcx hx hk hxk hxk0 hpa hOp hkd hnm htx hpp hLi hwx HLOOK HSUC
          go_wp2_with (at_builtin; (refine wpList_append_us rfl _ _ 22 22 rfl Try.underlying22 Try.underlying22 w2.heap.size (.slice A Li.length d) Li rfl HOi.out (.slice pA pp.length pc) pp rfl HPU.out HLL.out hzi ?_; intro v5 w5 hown5 hgrow5 hat5; have HO5 := Lib.hid hown5; have HG5 := Lib.hid hgrow5; clear hown5 hgrow5 hat5))
          obtain ⟨B5, d5, hv5, _, _, _⟩ := own_any HO5.out
          rw [← HLi.out] at hv5
          subst hv5
          refine ⟨⟨i + 1, B5, d5, by omega, by go_num, rfl, ?_, ?_⟩, by simp [intOf]; omega⟩
          · have h1 := HO5.out
            rw [← HLi.out] at h1
            exact h1
          · exact below_grown HBi.out hzi HG5.out (fun g hg => (HOi.out.blk g hg).1)
        · exact absurd ⟨posO l k0, hxk0, k0, o0, hk0, rfl⟩ hno
      · have hil : i = late.length := by omega
        have HIL := Lib.hid hil
        have d0 : decide ((i : Int) < (late.length : Int)) = false := decide_eq_false (by omega)
        obtain ⟨kf, hkf, hold⟩ := old_at HOK.out
        have HOLD := Lib.hid hold
        have HKF := Lib.hid hkf
        have HCOL := Lib.hid (show Calls Try.prog 48 #[.agg #[.slice hA h.length hc, .int .i64 old, .slice lA late.length lc], .map (some mb), .slice A (roots ++ ltW h late i).length d, .slice rA roots.length rc, .int .i64 old, .slice lA late.length lc] wr (GcPost l kf late (roots ++ ltW h late i) roots (Value.slice A (roots ++ ltW h late i).length d).ownBlock wr) from by
          have hz := HZ2.out
          have hlw := (ltW_len HOK.out i hi).1
          have := collect_any h l C old kf late (roots ++ ltW h late i) roots hA lA A rA lA hc late.length lc d rc lc W1.heap.size w2.heap.size mb wr (HH.out.below HBwi.out) HOK.out.obs HOK.out.len HIi.out hzi hkf (QW.of_own HOi.out) (fun p hp => by
            rcases List.mem_append.1 hp with hp | hp
            · exact ⟨HRO.out p hp, HR64.out p hp⟩
            · exact ltW_ok HOK.out i hi p hp) (fun k o hk p hp => (HOK.out.parts k o hk p hp).1) (by rw [List.length_append]; omega) (HR.out.below HBwi.out) (fun h0 k hk e => by have h1 := HRB.out h0 k hk; have h2 := (HOi.out.blk k e).1; omega) HR64.out hrl (HL.out.below HBwi.out) (fun h0 k hk e => by have h1 := HLB.out h0 k hk; have h2 := (HOi.out.blk k e).1; omega) (late_gc HOK.out hkf hold) (by have := HLF.out; omega)
          rw [← hold] at this
          exact this)
        obtain ⟨Li, hLi⟩ : ∃ Li, roots ++ ltW h late i = Li := ⟨_, rfl⟩
        have HLi := Lib.hid hLi
        rw [hLi] at HOi HCOL
        rw [hLi]
        clear hil hkf hold hLi
        go_wp2_with fail
        refine HCOL.out.mono ?_
        rintro e w4 ⟨K, A4, c4, B4, d4, hK, rfl, ho4, hB4, hg4, hne4⟩
        have HK := Lib.hid hK
        have HO4 := Lib.hid ho4
        have HB4 := Lib.hid hB4
        have HG4 := Lib.hid hg4
        have HNE4 := Lib.hid hne4
        have hz4 := hg4.size
        have HNB := Lib.hid (show ∀ b, b < w2.heap.size → some b ≠ (Value.slice A Li.length d).ownBlock from fun b hb e => by have := (HOi.out.blk b e.symm).1; omega)
        have hxi := HBX2.out.below HBi.out
        have hfi : ∀ o, wr.frozen? ⟨w.heap.size + 1, o, none⟩ = false := fun o => (grown_frozen (grown_below (g := none) HBi.out) (by have := HZ2.out; omega) (by simp)).trans (HFZ.out o)
        have hq3 : w.heap.size + 1 < wr.heap.size := by have := HZ2.out; omega
        have hna := HNB.out (w.heap.size + 1) (by have := HZ2.out; omega)
        have y0 := (grown_cell (o := 0) hg4 hq3 hna).trans hxi.a0
        have y1 := (grown_cell (o := 1) hg4 hq3 hna).trans hxi.a1
        have y2 := (grown_cell (o := 2) hg4 hq3 hna).trans hxi.a2
        have yf0 := (grown_frozen (o := 0) hg4 hq3 hna).trans (hfi 0)
        have yf1 := (grown_frozen (o := 1) hg4 hq3 hna).trans (hfi 1)
        have yf2 := (grown_frozen (o := 2) hg4 hq3 hna).trans (hfi 2)
        have y3 : w.heap.size + 1 < w4.heap.size := by omega
        have HBW4 := Lib.hid (show Below w.heap.size w w4 from below_grown HBwi.out HBwi.out.size hg4 (fun k hk => by have h1 := (HOi.out.blk k hk).1; have := HZ2.out; omega))
        have HQZ := Lib.hid (show w.heap.size + 2 ≤ wr.heap.size by have := HZ2.out; omega)
        clear hK ho4 hB4 hg4 hne4 hxi hfi hna a0 a1 a2 a3
        go_wp2_with fail
        obtain ⟨z0, z1, z2, zg⟩ := put3_cells y0 y1 y2 (.slice A4 (flatO (gcL l kf K late)).length c4) (.int .i64 (((flatO (gcL l kf K late)).length : Nat) : Int)) (.slice none 0 0)
        have hzz : w.heap.size + 1 < (put3 w4 (w.heap.size + 1) (.slice A4 (flatO (gcL l kf K late)).length c4) (.int .i64 (((flatO (gcL l kf K late)).length : Nat) : Int)) (.slice none 0 0)).heap.size := Nat.lt_of_lt_of_le y3 zg.size
        have hRK : RK l ((posO l kf : Nat) : Int) (roots ++ ltW h late late.length) K [] := by
          have h1 := HK.out
          rw [← HLi.out, HIL.out] at h1
          exact h1
        have hq := HQZ.out
        refine bodyPost_ret (minor_results (H := w.heap.size + 1) (v5 := .slice B4 roots.length d4) (v6 := .int .i64 0) rfl rfl rfl ((keepA _ _ hzz 0).trans z0) ((keepA _ _ hzz 1).trans z1) ((keepA _ _ hzz 2).trans z2)) rfl (.inl ⟨l, kf, K, A4, c4, B4, d4, HOK.out, HKF.out, HOLD.out, HRO.out, hRK, rfl, ?_, ?_, ?_, HNE4.out⟩)
        · exact ((HO4.out.grown zg (fun k hk e => by injection e with e; have h1 := (HO4.out.blk k hk).1; omega)).alloc _).mono (by omega)
        · exact ((HB4.out.grown zg (fun k hk e => by injection e with e; have h1 := (HB4.out.blk k hk).1; omega)).alloc _).mono (by omega)
        · exact (below_grown HBW4.out HBW4.out.size zg (fun g hg => by injection hg with hg; omega)).alloc (Nat.le_trans HBW4.out.size zg.size) _
  · have HB2 := Lib.hid hb
    have HB02 := Lib.hid (HB1.out.trans (hb.mono HB1.out.size))
    have HBX2 := Lib.hid (HBOX.out.1.below hb)
    have HFZ := Lib.hid (show ∀ o, w2.frozen? ⟨w.heap.size + 1, o, none⟩ = false from fun o => (grown_frozen (grown_below (g := none) hb) (by have := HZ1.out; omega) (by simp)).trans (HBOX.out.2 o))
    obtain ⟨b0, b1, b2, b3⟩ := HBX2.out
    have f0 := HFZ.out 0
    have f1 := HFZ.out 1
    have f2 := HFZ.out 2
    have x0 : (x != 0) = true := by simpa using hx
    have HPT3 := Lib.hid (fun u0 u1 u2 => put3_cells b0 b1 b2 u0 u1 u2)
    clear hb a0 a1 a2 a3
    go_wp2_with fail
    obtain ⟨z0, z1, z2, zg⟩ := HPT3.out (.slice none 0 0) (.int .i64 0) (.slice none 0 0)
    refine bodyPost_ret (minor_results (H := w.heap.size + 1) (v5 := .slice none 0 0) (v6 := .int .i64 x) rfl rfl rfl z0 z1 z2) rfl (.inr ⟨hno, x, hx, rfl, below_grown HB02.out HB02.out.size zg (fun g hg => by injection hg with hg; omega)⟩)
end Go.Proofs.Ytkdbnkkdohkhjaa
namespace Go.Proofs.Ytkdbnkkdohkhjaa.Bl
open Go.RowKit
set_option maxHeartbeats 400000 in
theorem ixB_any (I : World → Prop) (A : Option Addr) (b off n c f : Nat) (cp : Array Value) (g0 g1 : Nat → Value) (p : Nat → Bool) (w : World) (hn : n ≤ 9223372036854775807)
    (hA : 0 < n → A = some ⟨b, off, none⟩) (he : Enters Try.prog f)
    (hc : ∀ W, I W → ∀ k, k < n → W.cell? ⟨b, off + k * 2, none⟩ = some (g0 k) ∧ W.cell? ⟨b, off + k * 2 + 1, none⟩ = some (g1 k))
    (hf : ∀ W, I W → ∀ k, k < n → Calls Try.prog f (#[.agg #[g0 k, g1 k]] ++ cp) W fun e W' => e = .returned (.bool (p k)) ∧ I W') (hw : I w) :
    Calls Try.prog 56 #[.slice A n c, .func (.func f) #[] cp] w fun e w' => e = .returned (.int .i64 (ixOf p n)) ∧ I w' := by
  have HC := Lib.hid hc
  have HF := Lib.hid hf
  have HA := Lib.hid hA
  have HE := Lib.hid he
  clear hc hf hA he
  go_enter Try.func56, Try.ntmps56
  go_wp2_with fail
  go_loopw [5, 4, 8] (fun _ _ i wr => ∃ k : Nat, k ≤ n ∧ i = .int .i64 k ∧ (∀ j, j < k → p j = false) ∧ I wr) (fun _ _ i _ => n - (intOf i).toNat)
  case atStart => exact ⟨0, Nat.zero_le _, rfl, fun j hj => by omega, hw⟩
  case round =>
    obtain ⟨k, hk, rfl, hlow, hI⟩ := hrel
    have HL := Lib.hid hlow
    clear hlow
    by_cases hlt : k < n
    · obtain rfl := HA.out (by omega)
      obtain ⟨hc0, hc1⟩ := HC.out wr hI k hlt
      have hen := HE.out (#[.agg #[g0 k, g1 k]] ++ cp) wr
      go_wp2_with fail
      refine (HF.out wr hI k hlt).mono ?_
      rintro e W' ⟨rfl, hI'⟩
      by_cases hp : p k = true
      · clear hc0 hc1 hen
        go_wp2_with fail
        go_ret
        exact ⟨ret_int (ixOf_found hlt hp HL.out).symm, hI'⟩
      · have hp' : p k = false := by simpa using hp
        clear hc0 hc1 hen hp
        go_wp2_with fail
        go_roundw
        case rel =>
          refine ⟨k + 1, by omega, by go_num, fun j hj => ?_, hI'⟩
          by_cases e : j = k
          · rw [e]; exact hp'
          · exact HL.out j (by omega)
        case measure => simp [intOf]; omega
    · go_wp2_with fail
      go_ret
      exact ⟨ret_int (ixOf_none fun j hj => HL.out j (by omega)).symm, hI⟩

theorem ixB_rd (A : Option Addr) (n c f : Nat) (cp : Array Value) (g0 g1 : Nat → Value) (p : Nat → Bool) (w : World) (hn : n ≤ 9223372036854775807)
    (hR : Rd w 2 (fun k => [g0 k, g1 k]) A n) (he : Enters Try.prog f)
    (hf : ∀ W, Below w.heap.size w W → ∀ k, k < n → Calls Try.prog f (#[.agg #[g0 k, g1 k]] ++ cp) W fun e W' => e = .returned (.bool (p k)) ∧ Below w.heap.size w W') :
    Calls Try.prog 56 #[.slice A n c, .func (.func f) #[] cp] w fun e w' => e = .returned (.int .i64 (ixOf p n)) ∧ Below w.heap.size w w' := by
  by_cases h0 : 0 < n
  · obtain ⟨b, off, hA, hb, hc⟩ := hR h0
    refine ixB_any (fun W => Below w.heap.size w W) A b off n c f cp g0 g1 p w hn (fun _ => hA) he (fun W hW k hk => ?_) hf (Below.refl _ _)
    have hcell : ∀ o, W.cell? ⟨b, o, none⟩ = w.cell? ⟨b, o, none⟩ := fun o => hW.cell (p := ⟨b, o, none⟩) hb
    simp only [hcell]
    exact ⟨by simpa using hc k hk 0 _ rfl, by simpa using hc k hk 1 _ rfl⟩
  · exact ixB_any (fun W => Below w.heap.size w W) A 0 0 n c f cp g0 g1 p w hn (fun h => absurd h h0) he (fun W hW k hk => by omega) hf (Below.refl _ _)

def blobC (T : Nat → ByteArray) (M : Nat → Int) : Nat → List Value := fun k => [.string (T k), .int .i64 (M k)]
def hitB (T : Nat → ByteArray) (M : Nat → Int) (x : ByteArray) : Nat → Bool := fun k => decide (0 < M k) && ((T k).toList == x.toList)
set_option maxHeartbeats 400000 in
theorem find1_any (t x : ByteArray) (m : Int) (b : Nat) (w : World) (hb : b < w.heap.size) (hc : w.cell? ⟨b, 0, none⟩ = some (.string x)) :
    Calls Try.prog 77 #[.agg #[.string t, .int .i64 m], .pointer (some ⟨b, 0, none⟩)] w fun e w' => e = .returned (.bool (decide (0 < m) && (t.toList == x.toList))) ∧ Below w.heap.size w w' := by
  by_cases hm : 0 < m
  · go_enter Try.func77, Try.ntmps77
    go_wp2_with fail
    go_ret
    exact ⟨ret_bool (by simp [hm]), (Below.refl _ _).alloc (Nat.le_refl _) _⟩
  · have hd : decide (0 < m) = false := by simpa using hm
    go_enter Try.func77, Try.ntmps77
    go_wp2_with fail
    go_ret
    exact ⟨ret_bool (by simp), (Below.refl _ _).alloc (Nat.le_refl _) _⟩
theorem find1_enters : Enters Try.prog 77 := fun _ _ => by kernel_rfl
set_option maxHeartbeats 400000 in
theorem find_any (A : Option Addr) (n c : Nat) (T : Nat → ByteArray) (M : Nat → Int) (x : ByteArray) (w : World) (hn : n ≤ 9223372036854775807) (hR : Rd w 2 (blobC T M) A n) :
    Calls Try.prog 55 #[.slice A n c, .string x] w fun e w' => e = .returned (.int .i64 (ixOf (hitB T M x) n)) ∧ Below w.heap.size w w' := by
  have H : ∀ (o : Obj), (w.alloc o).cell? ⟨w.heap.size, 0, none⟩ = some (.string x) → Calls Try.prog 56 #[.slice A n c, .func (.func 77) #[] #[.pointer (some ⟨w.heap.size, 0, none⟩)]] (w.alloc o) fun e w' => e = .returned (.int .i64 (ixOf (hitB T M x) n)) ∧ Below (w.alloc o).heap.size (w.alloc o) w' := fun o ho =>
    ixB_rd A n c 77 #[.pointer (some ⟨w.heap.size, 0, none⟩)] (fun k => .string (T k)) (fun k => .int .i64 (M k)) (hitB T M x) (w.alloc o) hn (hR.alloc o) find1_enters
      fun W hW k _ => (find1_any (T k) x (M k) w.heap.size W (by have := hW.size; simp at this; omega) ((hW.cell (p := ⟨_, _, none⟩) (by simp)).trans ho)).mono fun e W' ⟨he, hb⟩ => ⟨he, hW.trans (hb.mono hW.size)⟩
  have H := Lib.hid H
  clear hR
  go_enter Try.func55, Try.ntmps55
  go_wp2_with fail
  refine (H.out _ (by simp)).mono ?_
  rintro e w1 ⟨rfl, hb⟩
  go_wp2_with fail
  go_ret
  exact ⟨rfl, ((Below.refl _ _).alloc (Nat.le_refl _) _).trans (hb.mono (by simp))⟩

def badB (t : ByteArray) (m : Int) : Bool := decide (64 < t.size) || decide (m < 0) || decide (1000 < m) || (m == 0 && !t.toList.isEmpty)
def dupB (T : Nat → ByteArray) (M : Nat → Int) (k : Nat) : Bool := decide (0 < M k) && decide (0 ≤ ixOf (hitB T M (T k)) k)
def OkS (T : Nat → ByteArray) (M : Nat → Int) (n : Nat) : Prop := n ≤ 60 ∧ ∀ k, k < n → badB (T k) (M k) = false ∧ dupB T M k = false
def ChkPost (Ok : Prop) (w : World) (e : Ending) (w' : World) : Prop := ∃ x : Int, e = .returned (.int .i64 x) ∧ (x = 0 ↔ Ok) ∧ Below w.heap.size w w'
set_option maxRecDepth 100000 in
set_option maxHeartbeats 1600000 in
theorem check_any (A : Option Addr) (n c : Nat) (T : Nat → ByteArray) (M : Nat → Int) (w : World) (hn : n ≤ c) (hc : c ≤ 9223372036854775807) (hR : Rd w 2 (blobC T M) A n) :
    Calls Try.prog 54 #[.slice A n c] w (ChkPost (OkS T M n) w) := by
  have HR := Lib.hid hR
  clear hR
  by_cases h60 : 60 < n
  · go_enter Try.func54, Try.ntmps54
    go_wp2_with fail
    go_ret
    exact ⟨2, rfl, ⟨fun h => by omega, fun h => by have := h.1; omega⟩, Below.refl _ _⟩
  · have h60' : n ≤ 60 := by omega
    clear h60
    go_enter Try.func54, Try.ntmps54
    go_wp2_with fail
    go_loopw [2, 3, 4, 10, 15, 40] (fun _ _ _ i _ _ wr => ∃ k : Nat, k ≤ n ∧ i = .int .i64 k ∧ (∀ j, j < k → badB (T j) (M j) = false ∧ dupB T M j = false) ∧ Below w.heap.size w wr) (fun _ _ _ i _ _ _ => n - (intOf i).toNat)
    case atStart => exact ⟨0, Nat.zero_le _, rfl, fun j hj => by omega, Below.refl _ _⟩
    case round =>
      obtain ⟨k, hk, rfl, hlow, hB⟩ := hrel
      have HL := Lib.hid hlow
      clear hlow
      by_cases hlt : k < n
      · obtain ⟨b, off, rfl, hb, hcell⟩ := HR.out (by omega)
        have c0 : wr.cell? ⟨b, off + k * 2, none⟩ = some (.string (T k)) := (hB.cell (p := ⟨b, _, none⟩) hb).trans (hcell k hlt 0 _ rfl)
        have c1 : wr.cell? ⟨b, off + k * 2 + 1, none⟩ = some (.int .i64 (M k)) := (hB.cell (p := ⟨b, _, none⟩) hb).trans (hcell k hlt 1 _ rfl)
        obtain ⟨t, ht⟩ : ∃ t, T k = t := ⟨_, rfl⟩
        obtain ⟨m, hm⟩ : ∃ m, M k = m := ⟨_, rfl⟩
        rw [ht] at c0
        rw [hm] at c1
        have HT := Lib.hid ht
        have HM := Lib.hid hm
        clear ht hm hcell
        have hBs := hB.size
        by_cases q1 : 64 < t.size
        · go_wp2_with fail
          go_ret
          exact ⟨1, rfl, ⟨fun h => by omega, fun h => by
            have h1 := (h.2 k hlt).1
            rw [HT.out, HM.out] at h1
            simp [badB, q1] at h1⟩, hB.alloc (by have := hB.size; omega) _⟩
        by_cases q2 : m < 0
        · go_wp2_with fail
          go_ret
          exact ⟨1, rfl, ⟨fun h => by omega, fun h => by
            have h1 := (h.2 k hlt).1
            rw [HT.out, HM.out] at h1
            simp [badB, q2] at h1⟩, hB.alloc (by have := hB.size; omega) _⟩
        by_cases q3 : 1000 < m
        · go_wp2_with fail
          go_ret
          exact ⟨1, rfl, ⟨fun h => by omega, fun h => by
            have h1 := (h.2 k hlt).1
            rw [HT.out, HM.out] at h1
            simp [badB, q3] at h1⟩, hB.alloc (by have := hB.size; omega) _⟩
        have d1 : decide (64 < (t.size : Int)) = false := by simp; omega
        have d2 : decide (m < 0) = false := by simp; omega
        have d3 : decide (1000 < m) = false := by simp; omega
        by_cases q4 : m = 0
        · subst q4
          by_cases q5 : t.toList.isEmpty = true
          · have q6 : t.toList = [] := by simpa using q5
            have d4 : decide ((0 : Int) < 0) = false := by decide
            clear q1 q2 q3 d2 d3
            go_wp2_with fail
            go_quiet (fail)
            go_wp2_with fail
            go_roundw
            case rel =>
              refine ⟨k + 1, by omega, by go_num, fun j hj => ?_, ?_⟩
              · by_cases e : j = k
                · subst e
                  rw [HT.out, HM.out]
                  refine ⟨by simp [badB, q6] at d1 ⊢; omega, by simp [dupB, HM.out]⟩
                · exact HL.out j (by omega)
              · exact below_drewN (hB.alloc (by omega) _) _
            case measure => simp [intOf]; omega
          · have q6 : t.toList.isEmpty = false := by simpa using q5
            have q7 : ¬ t.toList = [] := by simpa using q5
            clear q5
            go_wp2_with fail
            go_ret
            exact ⟨1, rfl, ⟨fun h => by omega, fun h => by
              have h1 := (h.2 k hlt).1
              rw [HT.out, HM.out] at h1
              simp [badB, q7] at h1⟩, hB.alloc (by omega) _⟩
        · have q5 : 0 < m := by omega
          have q6 : (m == 0) = false := by simpa using q4
          clear q1 q2 q3 q4
          go_wp2_with fail
          have i1 : (0 : Int) ≤ (k : Int) := by omega
          have i2 : (k : Int) ≤ (c : Int) := by omega
          have i3 : (k : Int) ≤ (n : Int) := by omega
          go_region_held3 (fun w' => w'.cell? ⟨wr.heap.size, 0, none⟩ = some (.string t) ∧ w'.cell? ⟨wr.heap.size, 1, none⟩ = some (.int .i64 m)) (first | exact ⟨k0, k1⟩ | go_keep)
            (first | (go_at_call 55; refine (find_any _ k c T M t _ (by omega) ?_).mono ?_; exact ((HR.out.take hk).below ((hB.alloc hBs _).drew)); rintro e w1 ⟨rfl, hb1⟩; have k0 : w1.cell? ⟨wr.heap.size, 0, none⟩ = some (.string t) := (hb1.cell (p := ⟨_, _, none⟩) (by simp)).trans (by simp); have k1 : w1.cell? ⟨wr.heap.size, 1, none⟩ = some (.int .i64 m) := (hb1.cell (p := ⟨_, _, none⟩) (by simp)).trans (by simp)))
          have hB1 : Below w.heap.size w w1 := ((hB.alloc hBs _).drew).trans (hb1.mono (by show w.heap.size ≤ (wr.alloc _).heap.size; simp; omega))
          by_cases hd : 0 ≤ ixOf (hitB T M t) k
          · go_wp2_with fail
            go_ret
            exact ⟨5, rfl, ⟨fun h => by omega, fun h => by
              have h1 := (h.2 k hlt).2
              unfold dupB at h1
              rw [HT.out, HM.out] at h1
              simp [q5, hd] at h1⟩, hB1⟩
          · have hd' : decide (0 ≤ ixOf (hitB T M t) k) = false := by simpa using hd
            go_wp2_with fail
            go_roundw
            case rel =>
              refine ⟨k + 1, by omega, by go_num, fun j hj => ?_, hB1⟩
              by_cases e : j = k
              · subst e
                unfold dupB
                rw [HT.out, HM.out, hd']
                refine ⟨?_, by simp⟩
                simp [badB] at d1 d2 d3 ⊢
                omega
              · exact HL.out j (by omega)
            case measure => simp [intOf]; omega
      · go_wp2_with fail
        go_ret
        exact ⟨0, rfl, ⟨fun _ => ⟨h60', fun j hj => HL.out j (by omega)⟩, fun _ => rfl⟩, hB⟩
end Go.Proofs.Ytkdbnkkdohkhjaa.Bl
namespace Go.Proofs.Ytkdbnkkdohkhjaa.Bl
open Go.RowKit
theorem info_cloneB : (Try.prog.info? 62).map (fun i => (i.zero, i.size, i.bytes)) = some (some (.agg #[.string ⟨#[]⟩, .int .i64 0]), 2, 24) := by kernel_rfl
set_option maxRecDepth 100000 in
set_option maxHeartbeats 400000 in
theorem cloneB (A : Option Addr) (n c : Nat) (g : Nat → List Value) (w : World) (hR : Rd w 2 g A n) (hl : ∀ k, (g k).length = 2) (h1 : ∀ k u, u ∈ g k → u.oneCell' = true)
    (hA : A = none → n = 0) (hn : n * 24 ≤ 140737488355328) :
    Calls Try.prog 26 #[.slice A n c] w (ClonePost 62 2 n (flatC g n) w) := by
  obtain ⟨i0, hi, hz0, hz1, hz2⟩ := info_parts info_cloneB
  have hnil := fun (w : World) => Lib.run_eql_slice_nil (P := Try.prog) w
  cases A with
  | none =>
    obtain rfl := hA rfl
    clear hR hl h1 hA hi hz0 hz1 hz2 hn
    go_enter Try.func26, Try.ntmps26
    go_wp2_with fail
    go_ret
    exact ⟨_, rfl, World.ownsRow_nil _ _ _ _, Below.refl _ _⟩
  | some a =>
    have hn0 : ∀ (o : Obj) j u, (flatC g n)[j]? = some u → (w.alloc o).cell? (a.add j) = some u := fun o j u hu => by
      obtain ⟨q1, q2, q3⟩ := flatC_at hl (by omega) hu
      obtain ⟨b, off, hab, hb, hc⟩ := hR (by omega)
      injection hab with hab
      subst hab
      have e : (⟨b, off, none⟩ : Addr).add j = ⟨b, off + j / 2 * 2 + j % 2, none⟩ := by
        have := Nat.div_add_mod' j 2
        unfold Addr.add
        split
        · rename_i h; subst h; simp
        · simp; omega
      rw [e, World.cell?_alloc_lt _ _ _ hb]
      exact hc _ q1 _ _ q3
    have HN := Lib.hid hn0
    have H1 := Lib.hid h1
    have HL := Lib.hid (flatC_length hl n)
    clear hR hl h1 hA hn0
    go_enter Try.func26, Try.ntmps26
    go_wp2_with (at_builtin; refine wpList_append_own _ rfl _ _ 58 rfl w.heap.size 62 i0 _ 2 24 Try.underlying58 hi hz0 hz1 hz2 rfl (by omega) (.slice (some ⟨w.heap.size, 0, none⟩) 0 0) 0 [] rfl (World.ownsRow_lit w #[] 0 (Nat.le_refl _) (by simp [maxLen]) rfl) a n c (flatC g n) rfl HL.out (HN.out _) (fun u hu => by obtain ⟨k, _, hk⟩ := flatC_mem hu; exact H1.out k u hk) (by unfold maxLen; omega) (by omega) (by simp) ?_; intro v1 w1 hown hgrow _; simp only [Nat.zero_add, List.nil_append] at hown)
    go_ret
    exact ⟨v1, rfl, hown, ((Below.refl _ _).alloc (Nat.le_refl _) _).grown hgrow (by simp) (by simp [Value.ownBlock])⟩


theorem check_ok (A : Option Addr) (n c : Nat) (T : Nat → ByteArray) (M : Nat → Int) (w : World) (hn : n ≤ c) (hc : c ≤ 9223372036854775807) (hR : Rd w 2 (blobC T M) A n) (ok : OkS T M n) :
    Calls Try.prog 54 #[.slice A n c] w fun e w' => e = .returned (.int .i64 0) ∧ Below w.heap.size w w' :=
  (check_any A n c T M w hn hc hR).mono fun _ _ ⟨_, he, hx, hb⟩ => ⟨by rw [he, hx.2 ok], hb⟩
def ErrPost (w : World) (e : Ending) (w' : World) : Prop := ∃ x : Int, e = .returned (.int .i64 x) ∧ x ≠ 0 ∧ Below w.heap.size w w'
theorem check_bad (A : Option Addr) (n c : Nat) (T : Nat → ByteArray) (M : Nat → Int) (w : World) (hn : n ≤ c) (hc : c ≤ 9223372036854775807) (hR : Rd w 2 (blobC T M) A n) (ok : ¬ OkS T M n) :
    Calls Try.prog 54 #[.slice A n c] w (ErrPost w) :=
  (check_any A n c T M w hn hc hR).mono fun _ _ ⟨x, he, hx, hb⟩ => ⟨x, he, fun h => ok (hx.1 h), hb⟩
set_option maxHeartbeats 400000 in
theorem held_bad (A : Option Addr) (n c : Nat) (T : Nat → ByteArray) (M : Nat → Int) (at_ : Int) (w : World) (hn : n ≤ c) (hc : c ≤ 9223372036854775807) (hR : Rd w 2 (blobC T M) A n) (ok : ¬ OkS T M n) :
    Calls Try.prog 58 #[.slice A n c, .int .i64 at_] w (ErrPost w) := by
  have H := Lib.hid (check_bad A n c T M w hn hc hR ok)
  clear hR ok
  go_enter Try.func58, Try.ntmps58
  go_wp2_with fail
  refine H.out.mono ?_
  rintro e w1 ⟨x, rfl, hx, hb⟩
  have hx1 : (x != 0) = true := by simpa using hx
  have hx2 : (x == 0) = false := by simpa using hx
  have HX := Lib.hid hx
  clear hx
  go_wp2_with fail
  go_ret
  exact ⟨x, rfl, HX.out, hb⟩
set_option maxHeartbeats 400000 in
theorem held_none (A : Option Addr) (n c : Nat) (T : Nat → ByteArray) (M : Nat → Int) (at_ : Int) (w : World) (hn : n ≤ c) (hc : c ≤ 9223372036854775807) (hR : Rd w 2 (blobC T M) A n) (ok : OkS T M n) (h : at_ < 0 ∨ (n : Int) ≤ at_ ∨ M at_.toNat = 0) :
    Calls Try.prog 58 #[.slice A n c, .int .i64 at_] w fun e w' => e = .returned (.int .i64 4) ∧ Below w.heap.size w w' := by
  have H := Lib.hid (check_ok A n c T M w hn hc hR ok)
  by_cases h1 : at_ < 0
  · clear hR ok h
    go_enter Try.func58, Try.ntmps58
    go_wp2_with fail
    refine H.out.mono ?_
    rintro e w1 ⟨rfl, hb⟩
    go_wp2_with fail
    go_ret
    exact ⟨rfl, hb⟩
  by_cases h2 : (n : Int) ≤ at_
  · clear hR ok h
    go_enter Try.func58, Try.ntmps58
    go_wp2_with fail
    refine H.out.mono ?_
    rintro e w1 ⟨rfl, hb⟩
    go_wp2_with fail
    go_ret
    exact ⟨rfl, hb⟩
  · obtain ⟨k, rfl⟩ := Int.eq_ofNat_of_zero_le (show 0 ≤ at_ by omega)
    have hk : k < n := by omega
    have hm : M k = 0 := by rcases h with h | h | h; omega; omega; simpa using h
    obtain ⟨b, off, rfl, hb0, hcell⟩ := hR (by omega)
    have c1 : w.cell? ⟨b, off + k * 2 + 1, none⟩ = some (.int .i64 0) := by rw [hcell k hk 1 _ rfl, hm]
    clear hR ok h h1 h2 hm hcell
    go_enter Try.func58, Try.ntmps58
    go_wp2_with fail
    refine H.out.mono ?_
    rintro e w1 ⟨rfl, hb⟩
    have c1' : w1.cell? ⟨b, off + k * 2 + 1, none⟩ = some (.int .i64 0) := (hb.cell (p := ⟨b, _, none⟩) hb0).trans c1
    clear c1
    go_wp2_with fail
    go_ret
    exact ⟨rfl, hb⟩
set_option maxHeartbeats 400000 in
theorem held_ok (A : Option Addr) (n c : Nat) (T : Nat → ByteArray) (M : Nat → Int) (k : Nat) (w : World) (hn : n ≤ c) (hc : c ≤ 9223372036854775807) (hR : Rd w 2 (blobC T M) A n) (ok : OkS T M n) (hk : k < n) (hm : M k ≠ 0) :
    Calls Try.prog 58 #[.slice A n c, .int .i64 k] w fun e w' => e = .returned (.int .i64 0) ∧ Below w.heap.size w w' := by
  have H := Lib.hid (check_ok A n c T M w hn hc hR ok)
  obtain ⟨b, off, rfl, hb0, hcell⟩ := hR (by omega)
  obtain ⟨m, hm0⟩ : ∃ m, M k = m := ⟨_, rfl⟩
  have c1 : w.cell? ⟨b, off + k * 2 + 1, none⟩ = some (.int .i64 m) := by rw [hcell k hk 1 _ rfl, hm0]
  have m1 : (m == 0) = false := by rw [← hm0]; simpa using hm
  clear hR ok hm hcell hm0
  go_enter Try.func58, Try.ntmps58
  go_wp2_with fail
  refine H.out.mono ?_
  rintro e w1 ⟨rfl, hb⟩
  have c1' : w1.cell? ⟨b, off + k * 2 + 1, none⟩ = some (.int .i64 m) := (hb.cell (p := ⟨b, _, none⟩) hb0).trans c1
  clear c1
  go_wp2_with fail
  go_ret
  exact ⟨rfl, hb⟩

end Go.Proofs.Ytkdbnkkdohkhjaa.Bl
namespace Go.Proofs.Ytkdbnkkdohkhjaa.Bl
open Go.RowKit

def updF {α : Type} (f : Nat → α) (k : Nat) (x : α) : Nat → α := fun i => if i = k then x else f i
theorem blobC_len (T : Nat → ByteArray) (M : Nat → Int) : ∀ k, (blobC T M k).length = 2 := fun _ => rfl
theorem blobC_one (T : Nat → ByteArray) (M : Nat → Int) : ∀ k u, u ∈ blobC T M k → u.oneCell' = true := fun k u h => by
  simp [blobC] at h
  rcases h with rfl | rfl <;> rfl
theorem ok_bounds {T : Nat → ByteArray} {M : Nat → Int} {n k : Nat} (ok : OkS T M n) (hk : k < n) : 0 ≤ M k ∧ M k ≤ 1000 ∧ (T k).size ≤ 64 ∧ (M k = 0 → (T k).toList = []) := by
  have h := (ok.2 k hk).1
  simp only [badB, Bool.or_eq_false_iff, decide_eq_false_iff_not, Bool.and_eq_false_iff, beq_eq_false_iff_ne, Bool.not_eq_false', List.isEmpty_iff] at h
  refine ⟨by omega, by omega, by omega, fun e => ?_⟩
  rcases h.2 with h | h
  · exact absurd e h
  · exact h
theorem set_many (T : Nat → ByteArray) (M : Nat → Int) (n k : Nat) (x : Int) : (flatC (blobC T M) n).set (k * 2 + 1) (.int .i64 x) = flatC (blobC T (updF M k x)) n := by
  rw [flatC_set (blobC_len T M) (by omega)]
  apply flatC_congr
  intro i _
  unfold updC updF blobC
  by_cases e : i = k <;> simp [e]
theorem set_text (T : Nat → ByteArray) (M : Nat → Int) (n k : Nat) (x : ByteArray) : (flatC (blobC T M) n).set (k * 2) (.string x) = flatC (blobC (updF T k x) M) n := by
  have := flatC_set (blobC_len T M) (n := n) (k := k) (j := 0) (by omega) (.string x)
  rw [Nat.add_zero] at this
  rw [this]
  apply flatC_congr
  intro i _
  unfold updC updF blobC
  by_cases e : i = k <;> simp [e]

def LetErr (w : World) (e : Ending) (w' : World) : Prop := ∃ x : Int, e = .returned (.tuple #[.slice none 0 0, .bool false, .int .i64 x]) ∧ x ≠ 0 ∧ Below w.heap.size w w'
set_option maxHeartbeats 400000 in
theorem let_err (A : Option Addr) (n c : Nat) (T : Nat → ByteArray) (M : Nat → Int) (at_ : Int) (w : World) (hn : n ≤ c) (hc : c ≤ 9223372036854775807) (hR : Rd w 2 (blobC T M) A n) (h : ¬ OkS T M n ∨ at_ < 0 ∨ (n : Int) ≤ at_ ∨ M at_.toNat = 0) :
    Calls Try.prog 34 #[.slice A n c, .int .i64 at_] w (LetErr w) := by
  have H : Calls Try.prog 58 #[.slice A n c, .int .i64 at_] w (ErrPost w) := by
    by_cases ok : OkS T M n
    · refine (held_none A n c T M at_ w hn hc hR ok ?_).mono fun _ _ ⟨he, hb⟩ => ⟨4, he, by omega, hb⟩
      rcases h with h | h
      · exact absurd ok h
      · exact h
    · exact held_bad A n c T M at_ w hn hc hR ok
  have H := Lib.hid H
  clear hR h
  go_enter Try.func34, Try.ntmps34
  go_wp2_with fail
  refine H.out.mono ?_
  rintro e w1 ⟨x, rfl, hx, hb⟩
  have hx1 : (x != 0) = true := by simpa using hx
  have hx2 : (x == 0) = false := by simpa using hx
  have HX := Lib.hid hx
  clear hx
  go_wp2_with fail
  go_ret3
  exact ⟨x, rfl, HX.out, hb⟩
def LetPost (n : Nat) (g : Nat → List Value) (gone : Bool) (w : World) (e : Ending) (w' : World) : Prop := ∃ v, e = .returned (.tuple #[v, .bool gone, .int .i64 0]) ∧ w'.ownsRow w.heap.size 62 2 v n (flatC g n) ∧ Below w.heap.size w w'
set_option maxRecDepth 100000 in
set_option maxHeartbeats 1000000 in
theorem let_more (A : Option Addr) (n c : Nat) (T : Nat → ByteArray) (M : Nat → Int) (k : Nat) (w : World) (hn : n ≤ c) (hc : c ≤ 9223372036854775807) (hR : Rd w 2 (blobC T M) A n) (ok : OkS T M n) (hk : k < n) (hm : 1 < M k) :
    Calls Try.prog 34 #[.slice A n c, .int .i64 k] w (LetPost n (blobC T (updF M k (M k - 1))) false w) := by
  have H := Lib.hid (held_ok A n c T M k w hn hc hR ok hk (by omega))
  have h60 := ok.1
  have hkb := ok_bounds ok hk
  have HR := Lib.hid hR
  have HS := Lib.hid (set_many T M n k (M k - 1))
  obtain ⟨m, hm0⟩ : ∃ m, M k = m := ⟨_, rfl⟩
  rw [hm0] at hm hkb HS ⊢
  have HM := Lib.hid hm0
  have hm1 : m ≤ 1000 := hkb.2.1
  clear hR ok hm0 hkb
  go_enter Try.func34, Try.ntmps34
  go_wp2_with fail
  refine H.out.mono ?_
  rintro e w1 ⟨rfl, hb⟩
  go_wp2_with fail
  refine (cloneB A n c (blobC T M) _ (HR.out.below hb) (blobC_len T M) (blobC_one T M) (fun h => by obtain ⟨b, off, e, _⟩ := HR.out (by omega); rw [h] at e; cases e) (by omega)).mono ?_
  rintro e w2 ⟨v, rfl, hown, hb2⟩
  have hB : Below w.heap.size w w2 := hb.trans (hb2.mono hb.size)
  obtain ⟨g, cap, rfl, hbase, hlt, hnc, hcm⟩ := own_form hown (by omega)
  have hown := own_mono hown hb.size
  have c1 : w2.cell? ⟨g, k * 2 + 1, none⟩ = some (.int .i64 m) := by
    rw [hown.cellAt _ (by omega), flatC_get (blobC_len T M) hk (by omega), ← HM.out]; rfl
  have f1 : w2.frozen? ⟨g, k * 2 + 1, none⟩ = false := hown.frozenAt _
  have hs := hown.stored (k * 2 + 1) (.int .i64 (m - 1))
  rw [HS.out] at hs
  have HO := Lib.hid hs
  have HBB := Lib.hid (hB.setCell (p := ⟨g, k * 2 + 1, none⟩) (show w.heap.size ≤ g from Nat.le_trans hb.size hbase) (.int .i64 (m - 1)))
  clear hs hown hb2 hbase
  have i1 : (k : Int) < (n : Int) := by omega
  have z1 : (m - 1 == 0) = false := by simp; omega
  have c2 : (w2.setCell ⟨g, k * 2 + 1, none⟩ (.int .i64 (m - 1))).cell? ⟨g, k * 2 + 1, none⟩ = some (.int .i64 (m - 1)) := World.cell?_setCell_same _ _ _ c1
  clear hB hb
  go_wp2_with fail
  go_quiet (fail)
  go_wp2_with fail
  go_ret3
  exact ⟨_, rfl, HO.out.1, below_drewN HBB.out _⟩
set_option maxRecDepth 100000 in
set_option maxHeartbeats 1000000 in
theorem let_last (A : Option Addr) (n c : Nat) (T : Nat → ByteArray) (M : Nat → Int) (k : Nat) (w : World) (hn : n ≤ c) (hc : c ≤ 9223372036854775807) (hR : Rd w 2 (blobC T M) A n) (ok : OkS T M n) (hk : k < n) (hm : M k = 1) :
    Calls Try.prog 34 #[.slice A n c, .int .i64 k] w (LetPost n (blobC (updF T k ⟨#[]⟩) (updF M k 0)) true w) := by
  have H := Lib.hid (held_ok A n c T M k w hn hc hR ok hk (by omega))
  have h60 := ok.1
  have hkb := ok_bounds ok hk
  have HR := Lib.hid hR
  have HS := Lib.hid (set_many T M n k 0)
  have HS2 := Lib.hid (set_text T (updF M k 0) n k ⟨#[]⟩)
  have HM := Lib.hid hm
  clear hR ok hm hkb
  go_enter Try.func34, Try.ntmps34
  go_wp2_with fail
  refine H.out.mono ?_
  rintro e w1 ⟨rfl, hb⟩
  go_wp2_with fail
  refine (cloneB A n c (blobC T M) _ (HR.out.below hb) (blobC_len T M) (blobC_one T M) (fun h => by obtain ⟨b, off, e, _⟩ := HR.out (by omega); rw [h] at e; cases e) (by omega)).mono ?_
  rintro e w2 ⟨v, rfl, hown, hb2⟩
  have hB : Below w.heap.size w w2 := hb.trans (hb2.mono hb.size)
  obtain ⟨g, cap, rfl, hbase, hlt, hnc, hcm⟩ := own_form hown (by omega)
  have hown := own_mono hown hb.size
  have c1 : w2.cell? ⟨g, k * 2 + 1, none⟩ = some (.int .i64 1) := by
    rw [hown.cellAt _ (by omega), flatC_get (blobC_len T M) hk (by omega), ← HM.out]; rfl
  have f1 : w2.frozen? ⟨g, k * 2 + 1, none⟩ = false := hown.frozenAt _
  obtain ⟨hs, _⟩ := hown.stored (k * 2 + 1) (.int .i64 0)
  rw [HS.out] at hs
  have c2 : (w2.setCell ⟨g, k * 2 + 1, none⟩ (.int .i64 0)).cell? ⟨g, k * 2 + 1, none⟩ = some (.int .i64 0) := World.cell?_setCell_same _ _ _ c1
  have c3 : (w2.setCell ⟨g, k * 2 + 1, none⟩ (.int .i64 0)).cell? ⟨g, k * 2, none⟩ = some (.string (T k)) := by
    have := flatC_get (blobC_len T (updF M k 0)) hk (j := 0) (by omega)
    rw [Nat.add_zero] at this
    rw [hs.cellAt _ (by omega), this]; rfl
  have f3 : (w2.setCell ⟨g, k * 2 + 1, none⟩ (.int .i64 0)).frozen? ⟨g, k * 2, none⟩ = false := hs.frozenAt _
  obtain ⟨hs2, _⟩ := hs.stored (k * 2) (.string ⟨#[]⟩)
  rw [HS2.out] at hs2
  have c4 : ((w2.setCell ⟨g, k * 2 + 1, none⟩ (.int .i64 0)).setCell ⟨g, k * 2, none⟩ (.string ⟨#[]⟩)).cell? ⟨g, k * 2 + 1, none⟩ = some (.int .i64 0) := by
    rw [hs2.cellAt _ (by omega), flatC_get (blobC_len _ _) hk (by omega)]
    simp [blobC, updF]
  have HO := Lib.hid hs2
  have HBB := Lib.hid ((hB.setCell (p := ⟨g, k * 2 + 1, none⟩) (show w.heap.size ≤ g from Nat.le_trans hb.size hbase) (.int .i64 0)).setCell (p := ⟨g, k * 2, none⟩) (show w.heap.size ≤ g from Nat.le_trans hb.size hbase) (.string ⟨#[]⟩))
  clear hs hs2 hown hb2 hbase
  have i1 : (k : Int) < (n : Int) := by omega
  clear hB hb
  go_wp2_with fail
  go_quiet (fail)
  go_wp2_with fail
  go_ret3
  exact ⟨_, rfl, HO.out, below_drewN HBB.out _⟩
end Go.Proofs.Ytkdbnkkdohkhjaa.Bl
namespace Go.Proofs.Ytkdbnkkdohkhjaa.Bl
open Go.RowKit

def freeB (M : Nat → Int) : Nat → Bool := fun k => M k == 0
set_option maxHeartbeats 400000 in
theorem hold1_any (t : ByteArray) (m : Int) (w : World) :
    Calls Try.prog 57 #[.agg #[.string t, .int .i64 m]] w fun e w' => e = .returned (.bool (m == 0)) ∧ Below w.heap.size w w' := by
  go_enter Try.func57, Try.ntmps57
  go_wp2_with fail
  go_ret
  exact ⟨rfl, (Below.refl _ _).alloc (Nat.le_refl _) _⟩
theorem hold1_enters : Enters Try.prog 57 := fun _ _ => by kernel_rfl
theorem free_any (A : Option Addr) (n c : Nat) (T : Nat → ByteArray) (M : Nat → Int) (w : World) (hn : n ≤ 9223372036854775807) (hR : Rd w 2 (blobC T M) A n) :
    Calls Try.prog 56 #[.slice A n c, .func (.func 57) #[] #[]] w fun e w' => e = .returned (.int .i64 (ixOf (freeB M) n)) ∧ Below w.heap.size w w' :=
  ixB_rd A n c 57 #[] (fun k => .string (T k)) (fun k => .int .i64 (M k)) (freeB M) w hn hR hold1_enters
    fun W hW k _ => (hold1_any (T k) (M k) W).mono fun _ _ ⟨he, hb⟩ => ⟨he, hW.trans (hb.mono hW.size)⟩
theorem own_blob_set {w : World} {base g cap n k : Nat} {T : Nat → ByteArray} {M : Nat → Int} (h : w.ownsRow base 62 2 (.slice (some ⟨g, 0, none⟩) n cap) n (flatC (blobC T M) n)) (hk : k < n) (x : ByteArray) (y : Int) :
    w.cell? ⟨g, k * 2, none⟩ = some (.string (T k)) ∧ w.cell? ⟨g, k * 2 + 1, none⟩ = some (.int .i64 (M k)) ∧ w.frozen? ⟨g, k * 2, none⟩ = false ∧ w.frozen? ⟨g, k * 2 + 1, none⟩ = false ∧
    ((w.setCell ⟨g, k * 2, none⟩ (.string x)).setCell ⟨g, k * 2 + 1, none⟩ (.int .i64 y)).ownsRow base 62 2 (.slice (some ⟨g, 0, none⟩) n cap) n (flatC (blobC (updF T k x) (updF M k y)) n) := by
  have e0 := flatC_get (blobC_len T M) hk (j := 0) (by omega)
  rw [Nat.add_zero] at e0
  refine ⟨by rw [h.cellAt _ (by omega), e0]; rfl, by rw [h.cellAt _ (by omega), flatC_get (blobC_len T M) hk (by omega)]; rfl, h.frozenAt _, h.frozenAt _, ?_⟩
  have h1 := (h.stored (k * 2) (.string x)).1
  rw [set_text] at h1
  have h2 := (h1.stored (k * 2 + 1) (.int .i64 y)).1
  rw [set_many] at h2
  exact h2
def HoldErr (w : World) (e : Ending) (w' : World) : Prop := ∃ x : Int, e = .returned (.tuple #[.slice none 0 0, .int .i64 0, .int .i64 x]) ∧ x ≠ 0 ∧ Below w.heap.size w w'
def HoldPost (n k : Nat) (g : Nat → List Value) (w : World) (e : Ending) (w' : World) : Prop := ∃ v, e = .returned (.tuple #[v, .int .i64 k, .int .i64 0]) ∧ w'.ownsRow w.heap.size 62 2 v n (flatC g n) ∧ Below w.heap.size w w'
set_option maxHeartbeats 400000 in
theorem hold_bad (A : Option Addr) (n c : Nat) (T : Nat → ByteArray) (M : Nat → Int) (x : ByteArray) (w : World) (hn : n ≤ c) (hc : c ≤ 9223372036854775807) (hR : Rd w 2 (blobC T M) A n) (ok : ¬ OkS T M n) :
    Calls Try.prog 33 #[.slice A n c, .string x] w (HoldErr w) := by
  have H := Lib.hid (check_bad A n c T M w hn hc hR ok)
  clear hR ok
  go_enter Try.func33, Try.ntmps33
  go_wp2_with fail
  refine H.out.mono ?_
  rintro e w1 ⟨x, rfl, hx, hb⟩
  have hx1 : (x != 0) = true := by simpa using hx
  have hx2 : (x == 0) = false := by simpa using hx
  have HX := Lib.hid hx
  clear hx
  go_wp2_with fail
  go_ret3
  exact ⟨x, rfl, HX.out, hb⟩
set_option maxHeartbeats 400000 in
theorem hold_long (A : Option Addr) (n c : Nat) (T : Nat → ByteArray) (M : Nat → Int) (x : ByteArray) (w : World) (hn : n ≤ c) (hc : c ≤ 9223372036854775807) (hR : Rd w 2 (blobC T M) A n) (ok : OkS T M n) (hx : 64 < x.size) :
    Calls Try.prog 33 #[.slice A n c, .string x] w (HoldErr w) := by
  have H := Lib.hid (check_ok A n c T M w hn hc hR ok)
  clear hR ok
  go_enter Try.func33, Try.ntmps33
  go_wp2_with fail
  refine H.out.mono ?_
  rintro e w1 ⟨rfl, hb⟩
  go_wp2_with fail
  go_ret3
  exact ⟨2, rfl, by omega, hb⟩
set_option maxRecDepth 100000 in
set_option maxHeartbeats 1000000 in
theorem hold_hit (A : Option Addr) (n c : Nat) (T : Nat → ByteArray) (M : Nat → Int) (x : ByteArray) (k : Nat) (w : World) (hn : n ≤ c) (hc : c ≤ 9223372036854775807) (hR : Rd w 2 (blobC T M) A n) (ok : OkS T M n) (hx : x.size ≤ 64)
    (hk : k < n) (hf : ixOf (hitB T M x) n = k) (hm : M k ≠ 1000) :
    Calls Try.prog 33 #[.slice A n c, .string x] w (HoldPost n k (blobC (updF T k x) (updF M k (M k + 1))) w) := by
  have H := Lib.hid (check_ok A n c T M w hn hc hR ok)
  have h60 := ok.1
  have hkb := ok_bounds ok hk
  have HR := Lib.hid hR
  have HF := Lib.hid hf
  obtain ⟨b, off, hA, hb0, hcell⟩ := hR (by omega)
  have HA := Lib.hid hA
  obtain ⟨m, hm0⟩ : ∃ m, M k = m := ⟨_, rfl⟩
  have c0 : w.cell? ⟨b, off + k * 2 + 1, none⟩ = some (.int .i64 m) := by rw [hcell k hk 1 _ rfl, hm0]
  rw [hm0] at hm hkb ⊢
  have HM := Lib.hid hm0
  have m1 : 0 ≤ m := hkb.1
  have m2 : m ≤ 1000 := hkb.2.1
  have m3 : (m == 1000) = false := by simpa using hm
  subst hA
  clear hR ok hm0 hkb hm hcell HA hf
  have k1 : ((k : Int) == 60) = false := by simp; omega
  have k2 : ((k : Int) == (n : Int)) = false := by simp; omega
  go_enter Try.func33, Try.ntmps33
  go_wp2_with fail
  refine H.out.mono ?_
  rintro e w1 ⟨rfl, hb⟩
  go_wp2_with fail
  refine (find_any _ n c T M x _ (by omega) (HR.out.below hb)).mono ?_
  rintro e w2 ⟨rfl, hb2⟩
  rw [HF.out]
  have hB2 : Below w.heap.size w w2 := hb.trans (hb2.mono hb.size)
  have c1 : w2.cell? ⟨b, off + k * 2 + 1, none⟩ = some (.int .i64 m) := (hB2.cell (p := ⟨b, _, none⟩) hb0).trans c0
  clear c0 hb hb2
  go_wp2_with fail
  refine (cloneB _ n c (blobC T M) _ (HR.out.below hB2) (blobC_len T M) (blobC_one T M) (fun h => by cases h) (by omega)).mono ?_
  rintro e w3 ⟨v, rfl, hown, hb3⟩
  have hB3 : Below w.heap.size w w3 := hB2.trans (hb3.mono hB2.size)
  obtain ⟨g, cap, rfl, hbase, hlt, hnc, hcm⟩ := own_form hown (by omega)
  have hbase' : w.heap.size ≤ g := Nat.le_trans hB2.size hbase
  obtain ⟨d0, d1, d2, d3, hown2⟩ := own_blob_set (own_mono hown hB2.size) hk x (m + 1)
  rw [HM.out] at d1
  have HO := Lib.hid hown2
  have HBB := Lib.hid ((hB3.setCell (p := ⟨g, k * 2, none⟩) hbase' (.string x)).setCell (p := ⟨g, k * 2 + 1, none⟩) hbase' (.int .i64 (m + 1)))
  clear hown hown2 hb3 hB3 hbase hbase' hB2 c1
  go_wp2_with fail
  go_ret3
  exact ⟨_, rfl, HO.out, HBB.out⟩
set_option maxRecDepth 100000 in
set_option maxHeartbeats 1000000 in
theorem hold_free (A : Option Addr) (n c : Nat) (T : Nat → ByteArray) (M : Nat → Int) (x : ByteArray) (k : Nat) (w : World) (hn : n ≤ c) (hc : c ≤ 9223372036854775807) (hR : Rd w 2 (blobC T M) A n) (ok : OkS T M n) (hx : x.size ≤ 64)
    (hk : k < n) (hf : ixOf (hitB T M x) n = -1) (hf2 : ixOf (freeB M) n = k) (hm : M k ≠ 1000) :
    Calls Try.prog 33 #[.slice A n c, .string x] w (HoldPost n k (blobC (updF T k x) (updF M k (M k + 1))) w) := by
  have H := Lib.hid (check_ok A n c T M w hn hc hR ok)
  have h60 := ok.1
  have hkb := ok_bounds ok hk
  have HR := Lib.hid hR
  have HF := Lib.hid hf
  have HF2 := Lib.hid hf2
  obtain ⟨b, off, hA, hb0, hcell⟩ := hR (by omega)
  have HA := Lib.hid hA
  obtain ⟨m, hm0⟩ : ∃ m, M k = m := ⟨_, rfl⟩
  have c0 : w.cell? ⟨b, off + k * 2 + 1, none⟩ = some (.int .i64 m) := by rw [hcell k hk 1 _ rfl, hm0]
  rw [hm0] at hm hkb ⊢
  have HM := Lib.hid hm0
  have m1 : 0 ≤ m := hkb.1
  have m2 : m ≤ 1000 := hkb.2.1
  have m3 : (m == 1000) = false := by simpa using hm
  subst hA
  clear hR ok hm0 hkb hm hcell HA hf hf2
  have k1 : ((k : Int) == 60) = false := by simp; omega
  have k2 : ((k : Int) == (n : Int)) = false := by simp; omega
  go_enter Try.func33, Try.ntmps33
  go_wp2_with fail
  refine H.out.mono ?_
  rintro e w1 ⟨rfl, hb⟩
  go_wp2_with fail
  refine (find_any _ n c T M x _ (by omega) (HR.out.below hb)).mono ?_
  rintro e w2 ⟨rfl, hb2⟩
  rw [HF.out]
  have hB1 : Below w.heap.size w w2 := hb.trans (hb2.mono hb.size)
  clear hb hb2
  go_wp2_with fail
  refine (free_any _ n c T M _ (by omega) (HR.out.below hB1)).mono ?_
  rintro e w2 ⟨rfl, hb2⟩
  rw [HF2.out]
  have hB2 : Below w.heap.size w w2 := hB1.trans (hb2.mono hB1.size)
  have c1 : w2.cell? ⟨b, off + k * 2 + 1, none⟩ = some (.int .i64 m) := (hB2.cell (p := ⟨b, _, none⟩) hb0).trans c0
  clear c0 hb2 hB1
  go_wp2_with fail
  refine (cloneB _ n c (blobC T M) _ (HR.out.below hB2) (blobC_len T M) (blobC_one T M) (fun h => by cases h) (by omega)).mono ?_
  rintro e w3 ⟨v, rfl, hown, hb3⟩
  have hB3 : Below w.heap.size w w3 := hB2.trans (hb3.mono hB2.size)
  obtain ⟨g, cap, rfl, hbase, hlt, hnc, hcm⟩ := own_form hown (by omega)
  have hbase' : w.heap.size ≤ g := Nat.le_trans hB2.size hbase
  obtain ⟨d0, d1, d2, d3, hown2⟩ := own_blob_set (own_mono hown hB2.size) hk x (m + 1)
  rw [HM.out] at d1
  have HO := Lib.hid hown2
  have HBB := Lib.hid ((hB3.setCell (p := ⟨g, k * 2, none⟩) hbase' (.string x)).setCell (p := ⟨g, k * 2 + 1, none⟩) hbase' (.int .i64 (m + 1)))
  clear hown hown2 hb3 hB3 hbase hbase' hB2 c1
  go_wp2_with fail
  go_ret3
  exact ⟨_, rfl, HO.out, HBB.out⟩
end Go.Proofs.Ytkdbnkkdohkhjaa.Bl
namespace Go.Proofs.Ytkdbnkkdohkhjaa.Bl
open Go.RowKit

set_option maxRecDepth 100000 in
set_option maxHeartbeats 1000000 in
theorem hold_full1 (A : Option Addr) (n c : Nat) (T : Nat → ByteArray) (M : Nat → Int) (x : ByteArray) (k : Nat) (w : World) (hn : n ≤ c) (hc : c ≤ 9223372036854775807) (hR : Rd w 2 (blobC T M) A n) (ok : OkS T M n) (hx : x.size ≤ 64)
    (hk : k < n) (hf : ixOf (hitB T M x) n = k) (hm : M k = 1000) : Calls Try.prog 33 #[.slice A n c, .string x] w (HoldErr w) := by
  have H := Lib.hid (check_ok A n c T M w hn hc hR ok)
  have h60 := ok.1
  have HR := Lib.hid hR
  have HF := Lib.hid hf
  obtain ⟨b, off, hA, hb0, hcell⟩ := hR (by omega)
  have c0 : w.cell? ⟨b, off + k * 2 + 1, none⟩ = some (.int .i64 1000) := by rw [hcell k hk 1 _ rfl, hm]
  subst hA
  clear hR ok hm hcell hf
  have k1 : ((k : Int) == 60) = false := by simp; omega
  go_enter Try.func33, Try.ntmps33
  go_wp2_with fail
  refine H.out.mono ?_
  rintro e w1 ⟨rfl, hb⟩
  go_wp2_with fail
  refine (find_any _ n c T M x _ (by omega) (HR.out.below hb)).mono ?_
  rintro e w2 ⟨rfl, hb2⟩
  rw [HF.out]
  have hB2 : Below w.heap.size w w2 := hb.trans (hb2.mono hb.size)
  have c1 : w2.cell? ⟨b, off + k * 2 + 1, none⟩ = some (.int .i64 1000) := (hB2.cell (p := ⟨b, _, none⟩) hb0).trans c0
  clear c0 hb hb2
  go_wp2_with fail
  go_ret3
  exact ⟨6, rfl, by omega, hB2⟩
set_option maxRecDepth 100000 in
set_option maxHeartbeats 1000000 in
theorem hold_full2 (A : Option Addr) (n c : Nat) (T : Nat → ByteArray) (M : Nat → Int) (x : ByteArray) (w : World) (hn : n ≤ c) (hc : c ≤ 9223372036854775807) (hR : Rd w 2 (blobC T M) A n) (ok : OkS T M n) (hx : x.size ≤ 64)
    (hf : ixOf (hitB T M x) n = -1) (hf2 : ixOf (freeB M) n = -1) (hm : n = 60) : Calls Try.prog 33 #[.slice A n c, .string x] w (HoldErr w) := by
  have H := Lib.hid (check_ok A n c T M w hn hc hR ok)
  have HR := Lib.hid hR
  have HF := Lib.hid hf
  have HF2 := Lib.hid hf2
  clear hR ok hf hf2
  subst hm
  go_enter Try.func33, Try.ntmps33
  go_wp2_with fail
  refine H.out.mono ?_
  rintro e w1 ⟨rfl, hb⟩
  go_wp2_with fail
  refine (find_any _ 60 c T M x _ (by omega) (HR.out.below hb)).mono ?_
  rintro e w2 ⟨rfl, hb2⟩
  rw [HF.out]
  have hB1 : Below w.heap.size w w2 := hb.trans (hb2.mono hb.size)
  clear hb hb2
  go_wp2_with fail
  refine (free_any _ 60 c T M _ (by omega) (HR.out.below hB1)).mono ?_
  rintro e w3 ⟨rfl, hb2⟩
  rw [HF2.out]
  have hB2 : Below w.heap.size w w3 := hB1.trans (hb2.mono hB1.size)
  clear hb2 hB1
  go_wp2_with fail
  go_ret3
  exact ⟨6, rfl, by omega, hB2⟩
theorem blobC_snoc (T : Nat → ByteArray) (M : Nat → Int) (n : Nat) (x : ByteArray) (y : Int) : flatC (blobC T M) n ++ [.string x, .int .i64 y] = flatC (blobC (updF T n x) (updF M n y)) (n + 1) := by
  rw [flatC]
  congr 1
  · apply flatC_congr
    intro i hi
    have : i ≠ n := by omega
    simp [blobC, updF, this]
  · simp [blobC, updF]
theorem one_two : ∀ u ∈ ([.string ⟨#[]⟩, .int .i64 0] : List Value), u.oneCell' = true := by
  intro u hu
  simp at hu
  rcases hu with rfl | rfl <;> rfl
theorem updF_updF {α : Type} (f : Nat → α) (k : Nat) (x y : α) : updF (updF f k x) k y = updF f k y := by
  funext i
  unfold updF
  by_cases e : i = k <;> simp [e]
set_option maxRecDepth 100000 in
set_option maxHeartbeats 1000000 in
theorem hold_new (A : Option Addr) (n c : Nat) (T : Nat → ByteArray) (M : Nat → Int) (x : ByteArray) (w : World) (hn : n ≤ c) (hc : c ≤ 9223372036854775807) (hA : A = none → n = 0) (hR : Rd w 2 (blobC T M) A n) (ok : OkS T M n) (hx : x.size ≤ 64)
    (hf : ixOf (hitB T M x) n = -1) (hf2 : ixOf (freeB M) n = -1) (hm : n < 60) : Calls Try.prog 33 #[.slice A n c, .string x] w (HoldPost (n + 1) n (blobC (updF T n x) (updF M n 1)) w) := by
  have H := Lib.hid (check_ok A n c T M w hn hc hR ok)
  have HR := Lib.hid hR
  have HF := Lib.hid hf
  have HF2 := Lib.hid hf2
  have HA := Lib.hid hA
  obtain ⟨i0, hi, hz0, hz1, hz2⟩ := info_parts info_cloneB
  clear hR ok hf hf2 hA
  have k1 : ((n : Int) == 60) = false := by simp; omega
  go_enter Try.func33, Try.ntmps33
  go_wp2_with fail
  refine H.out.mono ?_
  rintro e w1 ⟨rfl, hb⟩
  go_wp2_with fail
  refine (find_any _ n c T M x _ (by omega) (HR.out.below hb)).mono ?_
  rintro e w2 ⟨rfl, hb2⟩
  rw [HF.out]
  have hB1 : Below w.heap.size w w2 := hb.trans (hb2.mono hb.size)
  clear hb hb2
  go_wp2_with fail
  refine (free_any _ n c T M _ (by omega) (HR.out.below hB1)).mono ?_
  rintro e w3 ⟨rfl, hb2⟩
  rw [HF2.out]
  have hB2 : Below w.heap.size w w3 := hB1.trans (hb2.mono hB1.size)
  clear hb2 hB1
  go_wp2_with fail
  refine (cloneB _ n c (blobC T M) _ (HR.out.below hB2) (blobC_len T M) (blobC_one T M) HA.out (by omega)).mono ?_
  rintro e w4 ⟨v, rfl, hown, hb3⟩
  have hB3 : Below w.heap.size w w4 := hB2.trans (hb3.mono hB2.size)
  obtain ⟨A', cap, hv, hnc, hcm, _⟩ := own_any hown
  have hown := own_mono hown hB2.size
  have HO := Lib.hid hown
  have hz := hB3.size
  clear hown hb3
  rw [hv]
  rw [hv] at HO
  go_wp2_with (at_builtin; refine wpList_append_own _ rfl _ _ 58 rfl w.heap.size 62 i0 _ 2 24 Try.underlying58 hi hz0 hz1 hz2 rfl (by omega) (.slice A' n cap) n (flatC (blobC T M) n) rfl (HO.out.alloc _) ⟨w4.heap.size, 0, none⟩ 1 1 [.string ⟨#[]⟩, .int .i64 0] rfl rfl (cell_two_new _ _ _ _) one_two (by unfold maxLen; omega) (by omega) (by simp; omega) ?_; intro v5 w5 hown5 hgrow5 _; rw [blobC_snoc] at hown5; obtain ⟨g, cap5, hv5, hbase, hlt, hnc5, hcm5⟩ := own_form hown5 (by omega); subst hv5; obtain ⟨d0, d1, d2, d3, hown6⟩ := own_blob_set hown5 (show n < n + 1 by omega) x 1; rw [updF_updF, updF_updF] at hown6; have e1 : updF M n 0 n = 0 := (by simp [updF]); rw [e1] at d1; have HO6 := Lib.hid hown6; have HB5 := Lib.hid ((hB3.alloc hz _).grown hgrow5 (by simp; omega) (fun k hk => ((HO.out.lt k hk).1))); clear hown5 hown6 hgrow5 e1)
  go_ret3
  exact ⟨_, rfl, HO6.out, (HB5.out.setCell (p := ⟨g, n * 2, none⟩) hbase (.string x)).setCell (p := ⟨g, n * 2 + 1, none⟩) hbase (.int .i64 1)⟩
end Go.Proofs.Ytkdbnkkdohkhjaa.Bl
namespace Go.Proofs.Ytkdbnkkdohkhjaa
open Go.RowKit Bl
set_option linter.unusedVariables false
/-- entries that are alike -/
def sameB (T T' : Nat → ByteArray) (M M' : Nat → Int) (k : Nat) : Prop := (T k).toList = (T' k).toList ∧ M k = M' k
set_option maxRecDepth 100000 in
set_option maxHeartbeats 1000000 in
theorem equal_yes (A A' : Option Addr) (n c c' : Nat) (T T' : Nat → ByteArray) (M M' : Nat → Int) (w : World) (hn : n ≤ 9223372036854775807) (hR : Rd w 2 (blobC T M) A n) (hR' : Rd w 2 (blobC T' M') A' n) (hs : ∀ k, k < n → sameB T T' M M' k) :
    Calls Try.prog 29 #[.slice A n c, .slice A' n c'] w fun e w' => e = .returned (.bool true) ∧ Below w.heap.size w w' := by
  have HR := Lib.hid hR
  have HR' := Lib.hid hR'
  have HS := Lib.hid hs
  clear hR hR' hs
  go_enter Try.func29, Try.ntmps29
  go_wp2_with fail
  go_loopw [5, 4, 13] (fun _ _ i wr => ∃ k : Nat, k ≤ n ∧ i = .int .i64 k ∧ Below w.heap.size w wr) (fun _ _ i _ => n - (intOf i).toNat)
  case atStart => exact ⟨0, Nat.zero_le _, rfl, Below.refl _ _⟩
  case round =>
    obtain ⟨k, hk, rfl, hB⟩ := hrel
    by_cases hlt : k < n
    · obtain ⟨b, off, rfl, hb0, hcell⟩ := HR.out (by omega)
      obtain ⟨b', off', rfl, hb0', hcell'⟩ := HR'.out (by omega)
      have c0 : wr.cell? ⟨b, off + k * 2, none⟩ = some (.string (T k)) := (hB.cell (p := ⟨b, _, none⟩) hb0).trans (hcell k hlt 0 _ rfl)
      have c1 : wr.cell? ⟨b, off + k * 2 + 1, none⟩ = some (.int .i64 (M k)) := (hB.cell (p := ⟨b, _, none⟩) hb0).trans (hcell k hlt 1 _ rfl)
      have c0' : wr.cell? ⟨b', off' + k * 2, none⟩ = some (.string (T' k)) := (hB.cell (p := ⟨b', _, none⟩) hb0').trans (hcell' k hlt 0 _ rfl)
      have c1' : wr.cell? ⟨b', off' + k * 2 + 1, none⟩ = some (.int .i64 (M' k)) := (hB.cell (p := ⟨b', _, none⟩) hb0').trans (hcell' k hlt 1 _ rfl)
      obtain ⟨e1, e2⟩ := HS.out k hlt
      rw [← e2] at c1'
      generalize T k = t at *
      generalize T' k = t' at *
      generalize M k = m at *
      clear hcell hcell' e2
      have i1 : (0 : Int) ≤ (k : Int) := by omega
      have i2 : (k : Int) < (n : Int) := by omega
      go_wp2_with fail
      go_quiet (fail)
      go_wp2_with fail
      go_roundw
      case rel => exact ⟨k + 1, by omega, by go_num, below_drewN hB _⟩
      case measure => simp [intOf]; omega
    · go_wp2_with fail
      go_ret
      exact ⟨rfl, hB⟩
theorem put_free (h : List Nat) (hA : Option Addr) (hc : Nat) (o : Ob) (at_ : Int) (pA : Option Addr) (pc : Nat) (w : World) (hh : h.length ≤ 17592186044416) (hH : Su w (.slice hA h.length hc) h) (hP : Su w (.slice pA o.parts.length pc) o.parts) :
    Calls Try.prog 31 #[.slice hA h.length hc, .agg #[.int .i64 at_, .int .i64 o.kind, .int .i64 o.num, .string o.text, .slice pA o.parts.length pc]] w fun e w' => ∃ A l c z x, e = .returned (.tuple #[.slice A (List.length l) c, .int .i64 z, .int .i64 x]) ∧ OwnU w' w.heap.size (.slice A l.length c) l ∧ Below w.heap.size w w' := by
  rcases Classical.em (FitsOb h o) with hf | hf
  · refine (Put_ok h hA hc o at_ pA pc w hH hP hf).mono ?_
    rintro e w' ⟨A, d, rfl, hO, hb⟩
    exact ⟨A, _, d, _, _, rfl, hO, hb⟩
  · refine (Put_bad h hA hc o at_ pA pc w hh hH hP hf).mono ?_
    rintro e w' ⟨x, hx, rfl, hb⟩
    exact ⟨none, [], 0, _, x, rfl, OwnU.nil _ _, hb⟩
theorem over_free (f t : List Nat) (fA tA : Option Addr) (fc tc wd : Nat) (w : World) (hF : Su w (.slice fA f.length fc) f) (hT : Su w (.slice tA t.length tc) t) (f64 : All64 f) (t64 : All64 t) (hfl : f.length ≤ 17592186044416) (htl : t.length ≤ 17592186044416) (hwd : wd < 18446744073709551616) :
    Calls Try.prog 32 #[.slice fA f.length fc, .slice tA t.length tc, .int .u64 (wd : Int)] w fun e w' => ∃ A l c B m d q x, e = .returned (.tuple #[.slice A (List.length l) c, .slice B (List.length m) d, .int .u64 q, .int .i64 x]) ∧ OwnU w' w.heap.size (.slice A l.length c) l ∧ OwnU w' w.heap.size (.slice B m.length d) m ∧ Below w.heap.size w w' := by
  refine (over_any f t fA tA fc tc wd w hF hT f64 t64 hfl htl hwd).mono ?_
  rintro e w' (⟨-, x, hx, rfl, hb⟩ | ⟨-, -, q, st, -, v1, v2, rfl, h1, h2, hb⟩)
  · exact ⟨none, [], 0, none, [], 0, _, x, rfl, OwnU.nil _ _, OwnU.nil _ _, hb⟩
  · obtain ⟨A, c, rfl, _, _, _⟩ := own_any h1
    obtain ⟨B, d, rfl, _, _, _⟩ := own_any h2
    exact ⟨A, _, c, B, _, d, _, _, rfl, h1, h2, hb⟩
def GcFree (w : World) (e : Ending) (w' : World) : Prop := ∃ A l c o B m d x, e = .returned (.tuple #[.agg #[.slice A (List.length l) c, .int .i64 o, .slice none 0 0], .slice B m d, .int .i64 x]) ∧ OwnU w' w.heap.size (.slice A l.length c) l ∧ Below w.heap.size w w'
theorem minor_free (h roots : List Nat) (hA lA rA : Option Addr) (hc lc rc : Nat) (old : Int) (late : List Int) (w : World) (hH : Su w (.slice hA h.length hc) h) (h64 : All64 h) (hlen : h.length ≤ 17592186044416) (hL : Rd w 1 (tmC (lst late)) lA late.length) (hll : late.length ≤ 17592186044416) (hwl : ∀ x ∈ late, Wf x) (hwo : Wf old) (hR : Su w (.slice rA roots.length rc) roots) (r64 : All64 roots) (hrl : roots.length ≤ 100000) :
    Calls Try.prog 18 #[.agg #[.slice hA h.length hc, .int .i64 old, .slice lA late.length lc], .slice rA roots.length rc] w (GcFree w) := by
  refine (minor_any h roots hA lA rA hc lc rc old late w hH h64 hlen hL hll hwl hwo hR r64 hrl).mono ?_
  rintro e w' (⟨l, kf, K, A, c, B, d, -, -, -, -, -, rfl, hO, -, hb, -⟩ | ⟨-, x, hx, rfl, hb⟩)
  · exact ⟨A, _, c, _, B, _, d, _, rfl, hO, hb⟩
  · exact ⟨none, [], 0, _, none, 0, 0, x, rfl, OwnU.nil _ _, hb⟩
theorem major_free (h roots : List Nat) (hA lA rA : Option Addr) (hc lc rc : Nat) (old : Int) (late : List Int) (w : World) (hH : Su w (.slice hA h.length hc) h) (h64 : All64 h) (hlen : h.length ≤ 17592186044416) (hL : Rd w 1 (tmC (lst late)) lA late.length) (hll : late.length ≤ 17592186044416) (hwl : ∀ x ∈ late, Wf x) (hwo : Wf old) (hR : Su w (.slice rA roots.length rc) roots) (r64 : All64 roots) (hrl : roots.length ≤ 100000) :
    Calls Try.prog 19 #[.agg #[.slice hA h.length hc, .int .i64 old, .slice lA late.length lc], .slice rA roots.length rc] w (GcFree w) := by
  refine (major_any h roots hA lA rA hc lc rc old late w hH h64 hlen hL hll hwl hwo hR r64 hrl).mono ?_
  rintro e w' (⟨l, K, A, c, B, d, -, -, -, rfl, hO, -, hb, -⟩ | ⟨-, x, hx, rfl, hb⟩)
  · exact ⟨A, _, c, _, B, _, d, _, rfl, hO, hb⟩
  · exact ⟨none, [], 0, _, none, 0, 0, x, rfl, OwnU.nil _ _, hb⟩
theorem set_free (h : List Nat) (hA lA : Option Addr) (hc lc : Nat) (old : Int) (late : List Int) (a : Int) (x : Nat) (w : World) (hH : Su w (.slice hA h.length hc) h) (h64 : All64 h) (hlen : h.length ≤ 17592186044416) (hL : Rd w 1 (tmC (lst late)) lA late.length) (hLn : lA = none → late.length = 0) (hll : late.length ≤ 17592186044416) (hwl : ∀ x ∈ late, Wf x) (hwo : Wf old) (hwa : Wf a) (hx : x < 18446744073709551616) :
    Calls Try.prog 9 #[.agg #[.slice hA h.length hc, .int .i64 old, .slice lA late.length lc], .int .i64 a, .int .u64 (x : Int)] w fun e w' => ∃ A l c o B m d y, e = .returned (.tuple #[.agg #[.slice A (List.length l) c, .int .i64 o, .slice B (List.length m) d], .int .i64 y]) ∧ OwnU w' w.heap.size (.slice A l.length c) l ∧ OwnI w' w.heap.size (.slice B m.length d) m ∧ Below w.heap.size w w' := by
  refine (set_any h hA lA hc lc old late a x w hH h64 hlen hL hLn hll hwl hwo hwa hx).mono ?_
  rintro e w' (⟨l, k, o, A, c, B, d, -, -, -, -, rfl, hO, hI, hb⟩ | ⟨y, hy, rfl, hb⟩)
  · refine ⟨A, h.set (posO l k + 1) x, c, old, B, setLate old late a x, d, 0, by rw [List.length_set], ?_, hI, hb⟩
    rw [List.length_set]
    exact hO
  · exact ⟨none, [], 0, _, none, [], 0, y, rfl, OwnU.nil _ _, OwnI.nil _ _, hb⟩
/-- a store of the call's own -/
def OwnS (w : World) (base : Nat) (v : Value) (n : Nat) : Prop := ∃ T M, w.ownsRow base 62 2 v n (flatC (blobC T M) n)
theorem OwnS.nil (w : World) (base : Nat) : OwnS w base (.slice none 0 0) 0 := ⟨fun _ => ⟨#[]⟩, fun _ => 0, World.ownsRow_nil _ _ _ _⟩
theorem OwnS.base {w : World} {base b0 : Nat} {v : Value} {n : Nat} (h : OwnS w base v n) (hb : b0 ≤ base) : OwnS w b0 v n := by
  obtain ⟨T, M, hO⟩ := h
  exact ⟨T, M, own_mono hO hb⟩
theorem OwnS.below {w w' : World} {base : Nat} {v : Value} {n : Nat} (h : OwnS w base v n) (hb : Below w.heap.size w w') : OwnS w' base v n := by
  obtain ⟨T, M, hO⟩ := h
  exact ⟨T, M, own_keep hO hb⟩
theorem hold_own (A : Option Addr) (n c : Nat) (T : Nat → ByteArray) (M : Nat → Int) (x : ByteArray) (w : World) (hn : n ≤ c) (hc : c ≤ 9223372036854775807) (hA : A = none → n = 0) (hR : Rd w 2 (blobC T M) A n) :
    Calls Try.prog 33 #[.slice A n c, .string x] w fun e w' => ∃ B m d k y, e = .returned (.tuple #[.slice B m d, .int .i64 k, .int .i64 y]) ∧ OwnS w' w.heap.size (.slice B m d) m ∧ Below w.heap.size w w' := by
  have hE : ∀ e w', HoldErr w e w' → ∃ B m d k y, e = .returned (.tuple #[.slice B m d, .int .i64 k, .int .i64 y]) ∧ OwnS w' w.heap.size (.slice B m d) m ∧ Below w.heap.size w w' := by
    rintro e w' ⟨y, rfl, hy, hb⟩
    exact ⟨none, 0, 0, _, y, rfl, OwnS.nil _ _, hb⟩
  have hP : ∀ N k T' M' e w', HoldPost N k (blobC T' M') w e w' → ∃ B m d k y, e = .returned (.tuple #[.slice B m d, .int .i64 k, .int .i64 y]) ∧ OwnS w' w.heap.size (.slice B m d) m ∧ Below w.heap.size w w' := by
    rintro N k T' M' e w' ⟨v, rfl, hO, hb⟩
    obtain ⟨B, d, rfl, _, _, _⟩ := own_any hO
    exact ⟨B, N, d, _, _, rfl, ⟨T', M', hO⟩, hb⟩
  by_cases ok : Bl.OkS T M n
  · by_cases hx : 64 < x.size
    · exact (hold_long A n c T M x w hn hc hR ok hx).mono hE
    · have hx' : x.size ≤ 64 := by omega
      rcases ixOf_cases (hitB T M x) n with ⟨hf, _⟩ | ⟨k, hf, hk, _, _⟩
      · rcases ixOf_cases (freeB M) n with ⟨hf2, _⟩ | ⟨k, hf2, hk, hp, _⟩
        · by_cases hm : n = 60
          · exact (hold_full2 A n c T M x w hn hc hR ok hx' hf hf2 hm).mono hE
          · exact (hold_new A n c T M x w hn hc hA hR ok hx' hf hf2 (by have := ok.1; omega)).mono (hP _ _ _ _)
        · have hm : M k ≠ 1000 := by
            have : M k = 0 := by simpa [freeB] using hp
            omega
          exact (hold_free A n c T M x k w hn hc hR ok hx' hk hf hf2 hm).mono (hP _ _ _ _)
      · by_cases hm : M k = 1000
        · exact (hold_full1 A n c T M x k w hn hc hR ok hx' hk hf hm).mono hE
        · exact (hold_hit A n c T M x k w hn hc hR ok hx' hk hf hm).mono (hP _ _ _ _)
  · exact (hold_bad A n c T M x w hn hc hR ok).mono hE
theorem let_own (A : Option Addr) (n c : Nat) (T : Nat → ByteArray) (M : Nat → Int) (at_ : Int) (w : World) (hn : n ≤ c) (hc : c ≤ 9223372036854775807) (hR : Rd w 2 (blobC T M) A n) :
    Calls Try.prog 34 #[.slice A n c, .int .i64 at_] w fun e w' => ∃ B m d k y, e = .returned (.tuple #[.slice B m d, .bool k, .int .i64 y]) ∧ OwnS w' w.heap.size (.slice B m d) m ∧ Below w.heap.size w w' := by
  have hE : ∀ e w', LetErr w e w' → ∃ B m d k y, e = .returned (.tuple #[.slice B m d, .bool k, .int .i64 y]) ∧ OwnS w' w.heap.size (.slice B m d) m ∧ Below w.heap.size w w' := by
    rintro e w' ⟨y, rfl, hy, hb⟩
    exact ⟨none, 0, 0, _, y, rfl, OwnS.nil _ _, hb⟩
  have hP : ∀ N k T' M' e w', LetPost N (blobC T' M') k w e w' → ∃ B m d k y, e = .returned (.tuple #[.slice B m d, .bool k, .int .i64 y]) ∧ OwnS w' w.heap.size (.slice B m d) m ∧ Below w.heap.size w w' := by
    rintro N k T' M' e w' ⟨v, rfl, hO, hb⟩
    obtain ⟨B, d, rfl, _, _, _⟩ := own_any hO
    exact ⟨B, N, d, _, _, rfl, ⟨T', M', hO⟩, hb⟩
  by_cases ok : Bl.OkS T M n
  · by_cases h1 : at_ < 0 ∨ (n : Int) ≤ at_ ∨ M at_.toNat = 0
    · exact (let_err A n c T M at_ w hn hc hR (.inr h1)).mono hE
    · obtain ⟨k, rfl⟩ : ∃ k : Nat, at_ = k := ⟨at_.toNat, by omega⟩
      have hk : k < n := by omega
      have hm0 : M k ≠ 0 := fun e => h1 (.inr (.inr (by simpa using e)))
      have hb := (ok.2 k hk).1
      have hge : 0 ≤ M k := by
        rcases Int.lt_or_le (M k) 0 with h | h
        · simp [badB, h] at hb
        · exact h
      by_cases h2 : M k = 1
      · exact (let_last A n c T M k w hn hc hR ok hk h2).mono (hP _ _ _ _)
      · exact (let_more A n c T M k w hn hc hR ok hk (by omega)).mono (hP _ _ _ _)
  · exact (let_err A n c T M at_ w hn hc hR (.inl ok)).mono hE
end Go.Proofs.Ytkdbnkkdohkhjaa
namespace Go.Proofs.Ytkdbnkkdohkhjaa
open Go.RowKit Bl
set_option linter.unusedVariables false
/-- what the closure's variables hold -/
structure SameW (W : World) (b7 b15 b12 b16 b9 b17 b18 : Nat) (h g : List Nat) (late : List Int) (sn : Nat) (T : Nat → ByteArray) (M : Nat → Int) (hv hv' sv sv' ev ev' lv lv' : Value) : Prop where
  c7 : W.cell? ⟨b7, 0, none⟩ = some hv
  c15 : W.cell? ⟨b15, 0, none⟩ = some hv'
  c12 : W.cell? ⟨b12, 0, none⟩ = some sv
  c16 : W.cell? ⟨b16, 0, none⟩ = some sv'
  c90 : W.cell? ⟨b9, 0, none⟩ = some ev
  c92 : W.cell? ⟨b9, 2, none⟩ = some lv
  c17 : W.cell? ⟨b17, 0, none⟩ = some ev'
  c18 : W.cell? ⟨b18, 0, none⟩ = some lv'
  h1 : ∃ A c, hv = .slice A h.length c ∧ Su W hv h
  h2 : ∃ A c, hv' = .slice A h.length c ∧ Su W hv' h
  e1 : ∃ A c, ev = .slice A g.length c ∧ Su W ev g
  e2 : ∃ A c, ev' = .slice A g.length c ∧ Su W ev' g
  s1 : ∃ A c, sv = .slice A sn c ∧ Rd W 2 (blobC T M) A sn
  s2 : ∃ A c, sv' = .slice A sn c ∧ Rd W 2 (blobC T M) A sn
  l1 : ∃ A c, lv = .slice A late.length c ∧ Rd W 1 (tmC (lst late)) A late.length
  l2 : ∃ A c, lv' = .slice A late.length c ∧ Rd W 1 (tmC (lst late)) A late.length
theorem SameW.below {W W' : World} {b7 b15 b12 b16 b9 b17 b18 : Nat} {h g : List Nat} {late : List Int} {sn : Nat} {T : Nat → ByteArray} {M : Nat → Int} {hv hv' sv sv' ev ev' lv lv' : Value} (H : SameW W b7 b15 b12 b16 b9 b17 b18 h g late sn T M hv hv' sv sv' ev ev' lv lv') (hb : Below W.heap.size W W') : SameW W' b7 b15 b12 b16 b9 b17 b18 h g late sn T M hv hv' sv sv' ev ev' lv lv' := by
  have k : ∀ {b o : Nat} {u : Value}, W.cell? ⟨b, o, none⟩ = some u → W'.cell? ⟨b, o, none⟩ = some u := fun {b o u} h => (hb.cell (p := ⟨b, o, none⟩) (World.block_lt_of_cell? W _ h)).trans h
  obtain ⟨_, _, p1, p2⟩ := H.h1
  obtain ⟨_, _, q1, q2⟩ := H.h2
  obtain ⟨_, _, r1, r2⟩ := H.e1
  obtain ⟨_, _, s1, s2⟩ := H.e2
  obtain ⟨_, _, t1, t2⟩ := H.s1
  obtain ⟨_, _, u1, u2⟩ := H.s2
  obtain ⟨_, _, v1, v2⟩ := H.l1
  obtain ⟨_, _, w1, w2⟩ := H.l2
  exact ⟨k H.c7, k H.c15, k H.c12, k H.c16, k H.c90, k H.c92, k H.c17, k H.c18, ⟨_, _, p1, p2.below hb⟩, ⟨_, _, q1, q2.below hb⟩, ⟨_, _, r1, r2.below hb⟩, ⟨_, _, s1, s2.below hb⟩, ⟨_, _, t1, t2.below hb⟩, ⟨_, _, u1, u2.below hb⟩, ⟨_, _, v1, v2.below hb⟩, ⟨_, _, w1, w2.below hb⟩⟩
set_option maxHeartbeats 4000000 in
set_option maxRecDepth 100000 in
theorem same_any (W : World) (b7 b15 b12 b16 b9 b17 b18 : Nat) (h g : List Nat) (late : List Int) (sn : Nat) (T : Nat → ByteArray) (M : Nat → Int) (hv hv' sv sv' ev ev' lv lv' : Value) (H : SameW W b7 b15 b12 b16 b9 b17 b18 h g late sn T M hv hv' sv sv' ev ev' lv lv') (hsn : sn ≤ 9223372036854775807) (hll : late.length ≤ 9223372036854775807) :
    Calls Try.prog 28 #[.pointer (some ⟨b7, 0, none⟩), .pointer (some ⟨b15, 0, none⟩), .pointer (some ⟨b12, 0, none⟩), .pointer (some ⟨b16, 0, none⟩), .pointer (some ⟨b9, 0, none⟩), .pointer (some ⟨b17, 0, none⟩), .pointer (some ⟨b18, 0, none⟩)] W fun e w' => e = .returned (.bool true) ∧ Below W.heap.size W w' := by
  have HS := Lib.hid H
  obtain ⟨A7, d7, rfl, p7⟩ := H.h1
  obtain ⟨A15, d15, rfl, p15⟩ := H.h2
  obtain ⟨A9, d9, rfl, p9⟩ := H.e1
  obtain ⟨A17, d17, rfl, p17⟩ := H.e2
  obtain ⟨A12, d12, rfl, p12⟩ := H.s1
  obtain ⟨A16, d16, rfl, p16⟩ := H.s2
  obtain ⟨AL, dL, rfl, pL⟩ := H.l1
  obtain ⟨A18, d18, rfl, p18⟩ := H.l2
  have P7 := Lib.hid p7
  have P15 := Lib.hid p15
  have P9 := Lib.hid p9
  have P17 := Lib.hid p17
  have P12 := Lib.hid p12
  have P16 := Lib.hid p16
  have PL := Lib.hid pL
  have P18 := Lib.hid p18
  have z7 := H.c7
  have z15 := H.c15
  clear p7 p15 p9 p17 p12 p16 pL p18 H
  go_enter Try.func28, Try.ntmps28
  go_wp2_with fail
  refine (equalH_any_l A7 A15 d7 d15 h h W P7.out P15.out).mono ?_
  rintro e w1 ⟨rfl, q1, rfl⟩
  rw [decide_eq_true rfl]
  obtain ⟨w1, hw1⟩ : ∃ w1, w1 = World.drewN W q1 := ⟨_, rfl⟩
  have HB1 := Lib.hid (show Below W.heap.size W w1 by rw [hw1]; exact below_drewN (Below.refl _ _) _)
  rw [← hw1]
  have HS1 := Lib.hid (HS.out.below HB1.out)
  have z12 := HS1.out.c12
  have z16 := HS1.out.c16
  clear hw1 z7 z15
  go_wp2_with fail
  refine (equal_yes A12 A16 sn d12 d16 T T M M w1 hsn (P12.out.below HB1.out) (P16.out.below HB1.out) (fun k _ => ⟨rfl, rfl⟩)).mono ?_
  rintro e w2 ⟨rfl, hb2⟩
  have HB2 := Lib.hid (HB1.out.trans (hb2.mono HB1.out.size))
  have HS2 := Lib.hid (HS.out.below HB2.out)
  have z90 := HS2.out.c90
  have z17 := HS2.out.c17
  clear hb2 z12 z16
  go_wp2_with fail
  refine (equalH_any_l A9 A17 d9 d17 g g w2 (P9.out.below HB2.out) (P17.out.below HB2.out)).mono ?_
  rintro e w3 ⟨rfl, q3, rfl⟩
  rw [decide_eq_true rfl]
  obtain ⟨w3, hw3⟩ : ∃ w3, w3 = World.drewN w2 q3 := ⟨_, rfl⟩
  have HB3 := Lib.hid (show Below W.heap.size W w3 by rw [hw3]; exact below_drewN HB2.out _)
  rw [← hw3]
  have HS3 := Lib.hid (HS.out.below HB3.out)
  have z92 := HS3.out.c92
  have z18 := HS3.out.c18
  clear hw3 z90 z17
  go_wp2_with fail
  refine (equalI_any AL A18 late.length dL late.length d18 (lst late) (lst late) w3 hll hll (PL.out.below HB3.out) (P18.out.below HB3.out)).mono ?_
  rintro e w4 ⟨rfl, q4, rfl⟩
  have hv : (decide (late.length = late.length) && !anyOf (fun k => lst late k != lst late k) late.length) = true := by
    rw [anyOf_false.2 (fun j hj => by simp)]
    simp
  rw [hv]
  go_wp2_with fail
  go_ret
  exact ⟨rfl, below_drewN HB3.out _⟩
end Go.Proofs.Ytkdbnkkdohkhjaa
namespace Go.Proofs.Ytkdbnkkdohkhjaa
open Go.RowKit Bl
set_option linter.unusedVariables false
theorem own_elem {w : World} {base size n : Nat} {e : TypeId} {v : Value} {xs : List Value} {k : Nat} (h : w.ownsRow base e size v n xs) (hk : v.ownBlock = some k) : ∃ cur, w.heap[k]? = some (.cells cur e (0, 0)) := by
  rcases h.2 with ⟨rfl, _⟩ | ⟨g, cap, cur, rfl, hb, hg, _⟩
  · cases hk
  · injection hk with hk
    have hk : g = k := hk
    subst hk
    exact ⟨cur, hg⟩
theorem own_types {w : World} {b1 b2 z1 z2 n1 n2 : Nat} {e1 e2 : TypeId} {v1 v2 : Value} {x1 x2 : List Value} {k : Nat} (h1 : w.ownsRow b1 e1 z1 v1 n1 x1) (h2 : w.ownsRow b2 e2 z2 v2 n2 x2) (hne : e1 ≠ e2) (hk : v1.ownBlock = some k) : v2.ownBlock ≠ some k := fun hk2 => by
  obtain ⟨c1, g1⟩ := own_elem h1 hk
  obtain ⟨c2, g2⟩ := own_elem h2 hk2
  rw [g1] at g2
  injection g2 with g2
  injection g2 with _ g2
  exact hne g2
theorem OwnS.grown {w w' : World} {base n : Nat} {v : Value} {row : Option Nat} (h : OwnS w base v n) (hg : w.grownBy w' row) (hr : ∀ k, v.ownBlock = some k → row ≠ some k) : OwnS w' base v n := by
  obtain ⟨T, M, hO⟩ := h
  exact ⟨T, M, own_grown hO hg hr⟩
/-- what may still be written over -/
structure FH (wc : World) (VV : Nat → Value) (lv : Value) (ln gb : Nat) (A9 : Option Addr) (n9 c9 : Nat) (o9 : Int) (B9 : Option Addr) (d9 : Nat) (sv1 sv2 : Value) (n1 n2 : Nat) (wr : World) : Prop where
  bel : Below wc.heap.size wc wr
  heaps : ∀ k, k < 6 → ∃ l A c, VV k = .slice A (List.length l) c ∧ OwnU wr wc.heap.size (VV k) l
  late : ∃ l, List.length l = ln ∧ OwnI wr wc.heap.size lv l
  s1 : OwnS wr wc.heap.size sv1 n1
  s2 : OwnS wr wc.heap.size sv2 n2
  gx : AgB wr gb A9 n9 c9 o9 B9 ln d9
  lt : ∀ k, k < 6 → ∀ b, (VV k).ownBlock = some b → b ≠ gb
  lt2 : ∀ b, lv.ownBlock = some b → b ≠ gb
  sne : ∀ b, sv1.ownBlock = some b → sv2.ownBlock ≠ some b
section
variable {wc wr : World} {VV : Nat → Value} {lv : Value} {ln gb : Nat} {A9 : Option Addr} {n9 c9 : Nat} {o9 : Int} {B9 : Option Addr} {d9 : Nat} {sv1 sv2 : Value} {n1 n2 : Nat}
theorem AgB.grown {wx wy : World} {b : Nat} {A : Option Addr} {n c : Nat} {old : Int} {B : Option Addr} {m d : Nat} {row : Option Nat} (h : AgB wx b A n c old B m d) (hg : wx.grownBy wy row) (hr : row ≠ some b) : AgB wy b A n c old B m d :=
  ⟨(grown_cell hg h.lt (fun e => hr e.symm)).trans h.a0, (grown_cell hg h.lt (fun e => hr e.symm)).trans h.a1, (grown_cell hg h.lt (fun e => hr e.symm)).trans h.a2, Nat.lt_of_lt_of_le h.lt hg.size⟩
/-- a word is written -/
theorem FH.storeU (H : FH wc VV lv ln gb A9 n9 c9 o9 B9 d9 sv1 sv2 n1 n2 wr) {k g n c : Nat} (hk : k < 6) (hv : VV k = .slice (some ⟨g, 0, none⟩) n c) (j x : Nat) : FH wc VV lv ln gb A9 n9 c9 o9 B9 d9 sv1 sv2 n1 n2 (wr.setCell ⟨g, j, none⟩ (.int .u64 (x : Int))) := by
  have hg : wr.grownBy (wr.setCell ⟨g, j, none⟩ (.int .u64 (x : Int))) (some g) := grown_set (grown_self _ _) _
  obtain ⟨lk, Ak, ck, ek, hOk⟩ := H.heaps k hk
  have hbk : (VV k).ownBlock = some g := by rw [hv]; rfl
  obtain ⟨ll, hll, hl⟩ := H.late
  refine ⟨below_grown H.bel H.bel.size hg (fun b hb => by injection hb with hb; subst hb; exact (hOk.blk _ hbk).1), fun i hi => ?_, ⟨ll, hll, hl.grown hg (fun b hb e => by injection e with e; subst e; exact own_types hOk hl (by decide) hbk hb)⟩, ?_, ?_, H.gx.grown hg (fun e => by injection e with e; exact H.lt k hk _ hbk e), H.lt, H.lt2, H.sne⟩
  · obtain ⟨l, A, c', e, hO⟩ := H.heaps i hi
    by_cases hb : (VV i).ownBlock = some g
    · obtain ⟨A', c'', e', _⟩ : ∃ A' c'', VV i = .slice A' l.length c'' ∧ True := ⟨A, c', e, trivial⟩
      have hA : A = some ⟨g, 0, none⟩ := by
        rcases hO.2 with ⟨h0, _⟩ | ⟨g', cap, cur, h0, _⟩
        · rw [h0] at hb; cases hb
        · rw [h0] at hb e
          injection hb with hb
          injection e with e _ _
          rw [← e]
          have hb : g' = g := hb
          rw [hb]
      subst hA
      rw [e] at hO ⊢
      refine ⟨l.set j x, _, c', by rw [List.length_set], ?_⟩
      exact (OwnU.store hO).1
    · exact ⟨l, A, c', e, hO.grown hg (fun b hb' e2 => by injection e2 with e2; subst e2; exact hb hb')⟩
  · obtain ⟨T, M, hS⟩ := H.s1
    exact ⟨T, M, own_grown hS hg (fun b hb e => by injection e with e; subst e; exact own_types hOk hS (by decide) hbk hb)⟩
  · obtain ⟨T, M, hS⟩ := H.s2
    exact ⟨T, M, own_grown hS hg (fun b hb e => by injection e with e; subst e; exact own_types hOk hS (by decide) hbk hb)⟩
/-- a number is written -/
theorem FH.storeI (H : FH wc VV lv ln gb A9 n9 c9 o9 B9 d9 sv1 sv2 n1 n2 wr) {g c : Nat} (hv : lv = .slice (some ⟨g, 0, none⟩) ln c) (j : Nat) (x : Int) : FH wc VV lv ln gb A9 n9 c9 o9 B9 d9 sv1 sv2 n1 n2 (wr.setCell ⟨g, j, none⟩ (.int .i64 x)) := by
  have hg : wr.grownBy (wr.setCell ⟨g, j, none⟩ (.int .i64 x)) (some g) := grown_set (grown_self _ _) _
  have hbk : lv.ownBlock = some g := by rw [hv]; rfl
  obtain ⟨ll, hll, hl⟩ := H.late
  refine ⟨below_grown H.bel H.bel.size hg (fun b hb => by injection hb with hb; subst hb; exact (hl.blk _ hbk).1), fun i hi => ?_, ⟨ll.set j x, by rw [List.length_set, hll], ?_⟩, ?_, ?_, H.gx.grown hg (fun e => by injection e with e; exact H.lt2 _ hbk e), H.lt, H.lt2, H.sne⟩
  · obtain ⟨l, A, c', e, hO⟩ := H.heaps i hi
    exact ⟨l, A, c', e, hO.grown hg (fun b hb e2 => by injection e2 with e2; subst e2; exact own_types hl hO (by decide) hbk hb)⟩
  · subst hv
    subst hll
    have h1 := (World.ownsRow.stored hl j (.int .i64 x)).1
    unfold OwnI
    rw [List.length_set, show encI (ll.set j x) = (encI ll).set j (.int .i64 x) by simp [encI, List.map_set]]
    exact h1
  · obtain ⟨T, M, hS⟩ := H.s1
    exact ⟨T, M, own_grown hS hg (fun b hb e => by injection e with e; subst e; exact own_types hl hS (by decide) hbk hb)⟩
  · obtain ⟨T, M, hS⟩ := H.s2
    exact ⟨T, M, own_grown hS hg (fun b hb e => by injection e with e; subst e; exact own_types hl hS (by decide) hbk hb)⟩
end
/-- what is left of the stores to write over -/
structure FS (wc : World) (sv : Nat → Value) (wr : World) : Prop where
  bel : Below wc.heap.size wc wr
  st : ∀ k, k < 2 → ∃ A n c, sv k = .slice A n c ∧ OwnS wr wc.heap.size (sv k) n
  ne : ∀ i j b, i < 2 → j < 2 → i ≠ j → (sv i).ownBlock = some b → (sv j).ownBlock ≠ some b
theorem FS.store {wc wr : World} {sv : Nat → Value} (H : FS wc sv wr) {k g n c j : Nat} (hk : k < 2) (hv : sv k = .slice (some ⟨g, 0, none⟩) n c) (hj : j < n) (x : Int) : FS wc sv (wr.setCell ⟨g, j * 2 + 1, none⟩ (.int .i64 x)) := by
  have hg : wr.grownBy (wr.setCell ⟨g, j * 2 + 1, none⟩ (.int .i64 x)) (some g) := grown_set (grown_self _ _) _
  have hbk : (sv k).ownBlock = some g := by rw [hv]; rfl
  obtain ⟨Ak, nk, ck, ek, Tk, Mk, hOk⟩ := H.st k hk
  refine ⟨below_grown H.bel H.bel.size hg (fun b hb => by injection hb with hb; subst hb; exact (hOk.lt _ hbk).1), fun i hi => ?_, H.ne⟩
  by_cases e : i = k
  · subst e
    have e2 := ek.symm.trans hv
    injection e2 with e2 e3 e4
    subst e2 e3 e4
    rw [ek] at hOk ⊢
    refine ⟨_, _, _, rfl, Tk, updF Mk j x, ?_⟩
    have h1 := (World.ownsRow.stored hOk (j * 2 + 1) (.int .i64 x)).1
    rw [set_many] at h1
    exact h1
  · obtain ⟨A, n', c', e', hS⟩ := H.st i hi
    exact ⟨A, n', c', e', hS.grown hg (fun b hb e2 => by injection e2 with e2; subst e2; exact H.ne k i _ hk hi (fun h => e h.symm) hbk hb)⟩
end Go.Proofs.Ytkdbnkkdohkhjaa
namespace Go.Proofs.Ytkdbnkkdohkhjaa
open Go.RowKit Go.ChangeShapes Go.WideShapes Go.Deep
set_option linter.unusedVariables false
section
variable {H : Type} {enc : TypeId × Value → H} {W : World} {base : Nat} {p : List MemPlace} {d : DataW H}
theorem len_bulk {E : Nat → DataW H} {n N : Nat} (h : sumTo (fun i => Rows.uptoBulk (E i)) n + 1 ≤ N) : n + 1 ≤ N := by
  have h1 := len_sumTo (g := fun i => Rows.uptoBulk (E i)) (n := n) (fun i _ => bulk_one (E i))
  omega
set_option maxRecDepth 100000 in
/-- words that are read as data -/
theorem open_words {t fuel : Nat} {cs : List Value} {x : DataW H × List MemPlace} (ht : Try.prog.underlying t = some (.slice 27)) (h : DataW.trod enc Try.prog W 0 (fun _ => true) true fuel t cs = some x) :
    ∃ (A : Option Addr) (c : Nat) (l : List Nat), cs = [.slice A l.length c] ∧ Su W (.slice A l.length c) l ∧ All64 l ∧ l.length + 1 ≤ Rows.uptoBulk x.1 := by
  obtain ⟨A, n, c, C, E, e3, hnc, hcm, hA, hR, hlenC, hel, hbulk⟩ := open_rows_bulk (sz := 1) ht (by kernel_rfl) (by omega) h
  have hvi : ∀ j, ∃ z : Nat, j < n → C j = [.int .u64 (z : Int)] ∧ z < 18446744073709551616 := fun j => by
    by_cases hj : j < n
    · obtain ⟨m, pl, _, hy⟩ := hel j hj
      obtain ⟨z, e, _, hw⟩ := DataW.trod_int Try.underlying27 hy
      simp [Lit.wf, IntKind.min, IntKind.max, IntKind.signed, IntKind.bits] at hw
      exact ⟨z.toNat, fun _ => ⟨by rw [e]; congr 2; omega, by omega⟩⟩
    · exact ⟨0, fun h => absurd h hj⟩
  obtain ⟨Z, hZ⟩ := Classical.axiomOfChoice hvi
  have hl : ((List.range n).map Z).length = n := by simp
  have hb := len_bulk hbulk
  refine ⟨A, c, (List.range n).map Z, by rw [hl]; exact e3, ⟨A, c, rfl, by omega, hcm, fun h => by rw [hl]; exact hA h, fun h1 => ?_⟩, fun x hx => ?_, by rw [hl]; exact hb⟩
  · rw [hl] at h1 ⊢
    obtain ⟨b, off, e1, e2, e4⟩ := hR h1
    refine ⟨b, off, e1, e2, fun k hk j u hu => e4 k hk j u ?_⟩
    have : uC (nth ((List.range n).map Z)) k = C k := by
      unfold uC
      rw [(hZ k hk).1]
      simp [nth, hk]
    rw [this] at hu
    exact hu
  · obtain ⟨j, hj, rfl⟩ := List.mem_map.1 hx
    exact (hZ j (List.mem_range.1 hj)).2
set_option maxRecDepth 100000 in
theorem open_heapU {v : Value} (k0 : Value.okWide Try.prog W .any base 23 v) (h0 : DataW.Trod enc Try.prog W 0 (fun _ => true) true 23 v d p) :
    ∃ (A : Option Addr) (c : Nat) (h : List Nat), v = .slice A h.length c ∧ Su W (.slice A h.length c) h ∧ All64 h ∧ h.length + 1 ≤ Rows.uptoBulk d := by
  obtain ⟨a0, l0, cp0, rfl⟩ := okWide_slice Try.underlying23 k0
  obtain ⟨fuel, hf⟩ := h0
  obtain ⟨A, c, l, hcs, h1, h2, h3⟩ := open_words Try.underlying23 hf
  exact ⟨A, c, l, by simpa [Value.cells] using hcs, h1, h2, h3⟩
set_option maxRecDepth 100000 in
/-- an object that is read as data -/
theorem open_obj {v : Value} (k0 : Value.okWide Try.prog W .any base 33 v) (h0 : DataW.Trod enc Try.prog W 0 (fun _ => true) true 33 v d p) :
    ∃ (a : Int) (o : Ob) (pA : Option Addr) (pc : Nat), v = .agg #[.int .i64 a, .int .i64 o.kind, .int .i64 o.num, .string o.text, .slice pA o.parts.length pc] ∧ Su W (.slice pA o.parts.length pc) o.parts ∧ All64 o.parts ∧ (-9223372036854775808 ≤ o.num ∧ o.num < 9223372036854775808) ∧ o.parts.length + 1 ≤ Rows.uptoBulk d := by
  obtain ⟨⟨cs⟩, rfl, _⟩ := okWide_struct Try.underlying33 k0
  clear k0
  obtain ⟨fuel, hf⟩ := h0
  have hf : DataW.trod enc Try.prog W 0 (fun _ => true) true fuel 33 cs = some (d, p) := hf
  obtain ⟨xs, n, hfu, hx, hlen, hxl, hfl⟩ := trod_fields_all Try.underlying33 (by kernel_rfl) hf
  have hl5 : cs.length = 5 := hlen.trans (by kernel_rfl)
  have hx5 : xs.length = 5 := hxl
  match cs, hl5, xs, hx5 with
  | [c0, c1, c2, c3, c4], _, [x0, x1, x2, x3, x4], _ =>
    obtain ⟨y0, f0, h0⟩ := hfl 0 _ c0 rfl rfl
    obtain ⟨y1, f1, h1⟩ := hfl 1 _ c1 rfl rfl
    obtain ⟨y2, f2, h2⟩ := hfl 2 _ c2 rfl rfl
    obtain ⟨y3, f3, h3⟩ := hfl 3 _ c3 rfl rfl
    obtain ⟨y4, f4, h4⟩ := hfl 4 _ c4 rfl rfl
    simp at f0 f1 f2 f3 f4
    subst f0 f1 f2 f3 f4
    obtain ⟨z0, e0, _, _⟩ := DataW.trod_int Try.underlying3 h0
    obtain ⟨z1, e1, _, _⟩ := DataW.trod_int Try.underlying3 h1
    obtain ⟨z2, e2, _, hw2⟩ := DataW.trod_int Try.underlying3 h2
    obtain ⟨s, e3, _, _⟩ := DataW.trod_string Try.underlying9 h3
    obtain ⟨A, c, l, e4, g1, g2, g3⟩ := open_words Try.underlying22 h4
    simp at e0 e1 e2 e3 e4
    subst e0 e1 e2 e3 e4
    simp [Lit.wf, IntKind.min, IntKind.max, IntKind.signed, IntKind.bits] at hw2
    refine ⟨z0, ⟨z1, z2, s, l⟩, A, c, ?_, g1, g2, ⟨by show -9223372036854775808 ≤ z2; omega, by show z2 < 9223372036854775808; omega⟩, ?_⟩
    · rfl
    · rw [show d = (d, p).1 from rfl, hx]
      simp only [List.map, Rows.uptoBulk, Rows.uptoBulkAll]
      omega
set_option maxRecDepth 100000 in
/-- a value that is read as data -/
theorem open_val1W {v : Value} (k0 : Value.okWide Try.prog W .any base 90 v) (h0 : DataW.Trod enc Try.prog W 0 (fun _ => true) true 90 v d p) :
    ∃ (t : VT) (k m : Int) (s : ByteArray) (A : Option Addr) (n c : Nat), v = .agg #[.int .i64 k, .int .i64 m, .string s, .slice A n c] ∧ t.isV W (fun _ => True) [.int .i64 k, .int .i64 m, .string s, .slice A n c] ∧ t.many ≤ Rows.uptoBulk d ∧ t.wf := by
  obtain ⟨⟨cs⟩, rfl, _⟩ := okWide_struct Try.underlying90 k0
  obtain ⟨fuel, hf⟩ := h0
  have hf : DataW.trod enc Try.prog W 0 (fun _ => true) true fuel 90 cs = some (d, p) := hf
  obtain ⟨t, h1, h2, h3⟩ := open_valW _ _ _ hf
  obtain ⟨k, m, s, A, n, c, rfl⟩ := isV_cells h1
  exact ⟨t, k, m, s, A, n, c, rfl, h1, h2, h3⟩
end
theorem bulk_three {H : Type} {d0 d1 d2 : DataW H} (hk : Rows.uptoSmall H [d0, d1, d2] = true) : Rows.uptoBulk d0 ≤ 1048576 ∧ Rows.uptoBulk d1 ≤ 1048576 ∧ Rows.uptoBulk d2 ≤ 1048576 := by
  have h := of_decide_eq_true hk
  simp only [Rows.uptoBulkAll] at h
  omega
end Go.Proofs.Ytkdbnkkdohkhjaa
namespace Go.Proofs.Ytkdbnkkdohkhjaa
open Go.RowKit Go.ChangeShapes Go.WideShapes Go.Deep Bl
set_option linter.unusedVariables false
section
variable {H : Type} {enc : TypeId × Value → H} {W : World} {base : Nat} {v : Value} {p : List MemPlace} {d : DataW H}
set_option maxRecDepth 100000 in
theorem open_numbers {fuel : Nat} {cs : List Value} {x : DataW H × List MemPlace} (h : DataW.trod enc Try.prog W 0 (fun _ => true) true fuel 24 cs = some x) :
    ∃ (A : Option Addr) (l : List Int) (c : Nat), cs = [.slice A l.length c] ∧ Rd W 1 (tmC (lst l)) A l.length ∧ (A = none → l.length = 0) ∧ (∀ y ∈ l, Wf y) ∧ l.length + 1 ≤ Rows.uptoBulk x.1 := by
  obtain ⟨A, n, c, C, E, hcs, hnc, hcm, hA, hR, hlen, hel, hbulk⟩ := open_rows_bulk Try.underlying24 (sz := 1) (by kernel_rfl) (by omega) h
  have hvi : ∀ j, ∃ z : Int, j < n → C j = [.int .i64 z] ∧ Wf z := fun j => by
    by_cases hj : j < n
    · obtain ⟨m, pl, hm, hy⟩ := hel j hj
      obtain ⟨z, e, _, hw⟩ := DataW.trod_int Try.underlying3 hy
      exact ⟨z, fun _ => ⟨e, hw⟩⟩
    · exact ⟨0, fun h => absurd h hj⟩
  obtain ⟨Z, hZ⟩ := Classical.axiomOfChoice hvi
  refine ⟨A, fl Z n, c, by rw [fl_len]; exact hcs, ?_, fun h => by rw [fl_len]; exact hA h, fun y hy => ?_, by rw [fl_len]; exact len_bulk hbulk⟩
  · rw [fl_len]
    refine hR.congr fun k hk => ?_
    unfold tmC lst
    rw [(hZ k hk).1, List.getD_eq_getElem?_getD, fl_get _ hk]
    rfl
  · obtain ⟨j, hj⟩ := List.mem_iff_getElem?.1 hy
    have hjl : j < n := by have := (List.getElem?_eq_some_iff.1 hj).1; rw [fl_len] at this; exact this
    rw [fl_get _ hjl] at hj
    injection hj with hj
    subst hj
    exact (hZ j hjl).2
set_option maxRecDepth 100000 in
theorem open_agesU (k0 : Value.okWide Try.prog W .any base 26 v) (h0 : DataW.Trod enc Try.prog W 0 (fun _ => true) true 26 v d p) :
    ∃ (A : Option Addr) (c : Nat) (h : List Nat) (old : Int) (B : Option Addr) (e : Nat) (late : List Int), v = .agg #[.slice A h.length c, .int .i64 old, .slice B late.length e] ∧ Su W (.slice A h.length c) h ∧ All64 h ∧ h.length ≤ Rows.uptoBulk d ∧ Rd W 1 (tmC (lst late)) B late.length ∧ (B = none → late.length = 0) ∧ late.length ≤ Rows.uptoBulk d ∧ (∀ x ∈ late, Wf x) ∧ Wf old := by
  obtain ⟨⟨cs⟩, rfl, _⟩ := okWide_struct Try.underlying26 k0
  clear k0
  obtain ⟨fuel, hf⟩ := h0
  have hf : DataW.trod enc Try.prog W 0 (fun _ => true) true fuel 26 cs = some (d, p) := hf
  obtain ⟨xs, n, hfu, hx, hlen, hxl, hfl⟩ := trod_fields_all Try.underlying26 (by kernel_rfl) hf
  have hl3 : cs.length = 3 := hlen.trans (by kernel_rfl)
  have hx3 : xs.length = 3 := hxl
  match cs, hl3, xs, hx3 with
  | [c0, c1, c2], _, [x0, x1, x2], _ =>
    obtain ⟨y0, f0, h0⟩ := hfl 0 _ c0 rfl rfl
    obtain ⟨y1, f1, h1⟩ := hfl 1 _ c1 rfl rfl
    obtain ⟨y2, f2, h2⟩ := hfl 2 _ c2 rfl rfl
    simp at f0 f1 f2
    subst f0 f1 f2
    obtain ⟨A, c, l, e0, a1, a2, a3⟩ := open_words Try.underlying23 h0
    obtain ⟨zo, e1, _, wo⟩ := DataW.trod_int Try.underlying3 h1
    obtain ⟨B, m, cB, e2, b1, b2, b3, b4⟩ := open_numbers h2
    simp at e0 e1 e2
    subst e0 e1 e2
    have hb : Rows.uptoBulk d = Rows.uptoBulk (DataW.agg [x0.1, x1.1, x2.1]) := by rw [show d = (d, p).1 from rfl, hx]; rfl
    simp only [Rows.uptoBulk, Rows.uptoBulkAll] at hb
    exact ⟨A, c, l, zo, B, cB, m, rfl, a1, a2, by omega, b1, b2, by omega, b3, wo⟩
set_option maxRecDepth 100000 in
theorem open_rootsU (k0 : Value.okWide Try.prog W .any base 22 v) (h0 : DataW.Trod enc Try.prog W 0 (fun _ => true) true 22 v d p) :
    ∃ (A : Option Addr) (c : Nat) (l : List Nat), v = .slice A l.length c ∧ Su W (.slice A l.length c) l ∧ All64 l ∧ l.length + 1 ≤ Rows.uptoBulk d := by
  obtain ⟨a0, l0, cp0, rfl⟩ := okWide_slice Try.underlying22 k0
  obtain ⟨fuel, hf⟩ := h0
  obtain ⟨A, c, l, hcs, h1, h2, h3⟩ := open_words Try.underlying22 hf
  exact ⟨A, c, l, by simpa [Value.cells] using hcs, h1, h2, h3⟩
set_option maxRecDepth 100000 in
theorem open_storeU (k0 : Value.okWide Try.prog W .any base 58 v) (h0 : DataW.Trod enc Try.prog W 0 (fun _ => true) true 58 v d p) :
    ∃ (A : Option Addr) (n c : Nat) (T : Nat → ByteArray) (M : Nat → Int), v = .slice A n c ∧ n ≤ c ∧ c ≤ 9223372036854775807 ∧ (A = none → n = 0) ∧ Rd W 2 (blobC T M) A n ∧ n + 1 ≤ Rows.uptoBulk d := by
  obtain ⟨a0, l0, cp0, rfl⟩ := okWide_slice Try.underlying58 k0
  obtain ⟨fuel, hf⟩ := h0
  obtain ⟨A, n, c, C, E, hcs, hnc, hcm, hA, hR, hlen, hel, hbulk⟩ := open_rows_bulk Try.underlying58 (sz := 2) (by kernel_rfl) (by omega) hf
  have hv : Value.slice a0 l0 cp0 = .slice A n c := by simpa [Value.cells] using hcs
  have hall : ∀ i, ∃ q : ByteArray × Int, i < n → C i = [.string q.1, .int .i64 q.2] := fun i => by
    by_cases hi : i < n
    · obtain ⟨m, pl, hm, hy⟩ := hel i hi
      obtain ⟨xs, m2, hfu, hx, hln, hxl, hfl⟩ := trod_fields_all Try.underlying62 (by kernel_rfl) hy
      match hC : C i, hlen i with
      | [u0, u1], _ =>
        rw [hC] at hfl
        obtain ⟨y0, f0, h0⟩ := hfl 0 _ u0 rfl rfl
        obtain ⟨y1, f1, h1⟩ := hfl 1 _ u1 rfl rfl
        obtain ⟨s, e0, _, _⟩ := DataW.trod_string Try.underlying9 h0
        obtain ⟨z, e1, _, _⟩ := DataW.trod_int Try.underlying3 h1
        simp at e0 e1
        subst e0 e1
        exact ⟨⟨s, z⟩, fun _ => rfl⟩
    · exact ⟨⟨⟨#[]⟩, 0⟩, fun h => absurd h hi⟩
  obtain ⟨Z, hZ⟩ := Classical.axiomOfChoice hall
  exact ⟨A, n, c, fun i => (Z i).1, fun i => (Z i).2, hv, hnc, hcm, hA, hR.congr fun k hk => hZ k hk, len_bulk hbulk⟩
end
theorem bulk_seven {H : Type} {d0 d1 d2 d3 d4 d5 d6 : DataW H} (hk : Rows.uptoSmall H [d0, d1, d2, d3, d4, d5, d6] = true) : Rows.uptoBulk d0 ≤ 1048576 ∧ Rows.uptoBulk d2 ≤ 1048576 ∧ Rows.uptoBulk d3 ≤ 1048576 ∧ Rows.uptoBulk d5 ≤ 1048576 := by
  have h := of_decide_eq_true hk
  simp only [Rows.uptoBulkAll] at h
  omega
end Go.Proofs.Ytkdbnkkdohkhjaa
namespace Go.Proofs.Ytkdbnkkdohkhjaa
open Go.RowKit
set_option linter.unusedVariables false
/-- i is done too -/
def dn (L : Nat → Bool) (i : Nat) : Nat → Bool := fun j => if j = i then true else L j
theorem dn_self (L : Nat → Bool) (i : Nat) : dn L i i = true := by simp [dn]
theorem dn_of {L : Nat → Bool} {i j : Nat} (h : L j = true) : dn L i j = true := by unfold dn; split <;> simp [h]
theorem of_dn {L : Nat → Bool} {i j : Nat} (h : dn L i j = true) (hne : j ≠ i) : L j = true := by unfold dn at h; rw [if_neg hne] at h; exact h
def unl (l : Array Bool) (n : Nat) : Nat := ((List.range n).filter fun i => !l.getD i true).length
theorem getD_in {l : Array Bool} {i : Nat} (h : i < l.size) (x y : Bool) : l.getD i x = l.getD i y := by
  simp [Array.getD_eq_getD_getElem?, h]
theorem getD_set {l : Array Bool} {i j : Nat} {x : Bool} (hi : i < l.size) : (l.setIfInBounds i true).getD j x = if j = i then true else l.getD j x := by
  simp only [Array.getD_eq_getD_getElem?, Array.getElem?_setIfInBounds]
  by_cases e : i = j
  · subst e; simp [hi]
  · rw [if_neg e, if_neg (fun h => e h.symm)]
theorem unl_set {l : Array Bool} {n i : Nat} (hl : l.size = n) (hi : i < n) (hu : l.getD i true = false) : unl (l.setIfInBounds i true) n + 1 = unl l n := by
  have key : ∀ m, m ≤ n → (m ≤ i → ((List.range m).filter fun j => !(l.setIfInBounds i true).getD j true).length = ((List.range m).filter fun j => !l.getD j true).length) ∧ (i < m → ((List.range m).filter fun j => !(l.setIfInBounds i true).getD j true).length + 1 = ((List.range m).filter fun j => !l.getD j true).length) := by
    intro m
    induction m with
    | zero => intro _; exact ⟨fun _ => rfl, fun h => by omega⟩
    | succ m ih =>
      intro hm
      obtain ⟨h1, h1'⟩ := ih (by omega)
      rw [List.range_succ, List.filter_append, List.filter_append, List.length_append, List.length_append]
      have h2 : (l.setIfInBounds i true).getD m true = if m = i then true else l.getD m true := getD_set (by omega)
      by_cases e : m = i
      · subst e
        refine ⟨fun h => by omega, fun _ => ?_⟩
        rw [h1 (Nat.le_refl _)]
        simp only [List.filter_cons, List.filter_nil, h2, if_true, hu]
        simp
      · simp only [List.filter_cons, List.filter_nil, h2, if_neg e]
        refine ⟨fun h => by rw [h1 (by omega)], fun h => ?_⟩
        have := h1' (by omega)
        omega
  exact (key n (Nat.le_refl _)).2 hi
section
variable {P : Program} {ops : Array Oper} {Q : Exit → Act → World → Prop} {md : Region.Mode}
theorem ready_all {n : Nat} (hn : ops.size = n) (hedge : ∀ (i : Nat) (o : Oper), ops[i]? = some o → o.after.all (fun e => !Region.binds md e || decide (e.on < i)) = true) {l : Array Bool} (hl : l.size = n) (hr : Region.ready md ops l = []) : ∀ i, i < n → l.getD i true = true := by
  intro i
  induction i using Nat.strongRecOn with
  | _ i ih =>
    intro hi
    cases hb : l.getD i true with
    | true => rfl
    | false =>
      exfalso
      have hmem : i ∈ Region.ready md ops l := by
        unfold Region.ready
        rw [List.mem_filter]
        refine ⟨List.mem_range.2 (by omega), ?_⟩
        obtain ⟨o, ho⟩ : ∃ o, ops[i]? = some o := ⟨_, Array.getElem?_eq_getElem (by omega)⟩
        rw [hb, ho]
        simp only [Bool.not_false, Bool.true_and, Option.map_some, Option.getD_some]
        have he := hedge i o ho
        rw [Array.all_eq_true] at he ⊢
        intro k hk
        have h1 := he k hk
        rw [Bool.or_eq_true] at h1 ⊢
        rcases h1 with h1 | h1
        · exact .inl h1
        · have h2 := of_decide_eq_true h1
          right
          rw [getD_in (by omega) false true]
          exact ih _ h2 (by omega)
      rw [hr] at hmem
      cases hmem
theorem any_inv {n : Nat} (hn : ops.size = n) (hedge : ∀ (i : Nat) (o : Oper), ops[i]? = some o → o.after.all (fun e => !Region.binds md e || decide (e.on < i)) = true) (Inv : (Nat → Bool) → Act → World → Prop)
    (step : ∀ L a w, Inv L a w → ∀ (i : Nat) (o : Oper), ops[i]? = some o → L i = false → (o.after.all (fun e => !Region.binds md e || L e.on) = true) → wpOp P ops Q i (Inv (dn L i)) a w)
    (fin : ∀ L a w, Inv L a w → (∀ i, i < n → L i = true) → Q .normal a w) :
    ∀ (fuel : Nat) (l : Array Bool) (a : Act) (w : World), l.size = n → unl l n ≤ fuel → Inv (fun i => l.getD i false) a w → wpAny P md ops Q fuel l a w := by
  have hfin : ∀ (l : Array Bool) (a : Act) (w : World), l.size = n → Inv (fun i => l.getD i false) a w → Region.ready md ops l = [] → Q .normal a w := fun l a w hl hi hr => by
    refine fin _ a w hi (fun i hin => ?_)
    show l.getD i false = true
    rw [getD_in (by omega) false true]
    exact ready_all hn hedge hl hr i hin
  intro fuel
  induction fuel with
  | zero =>
    intro l a w hl hu hi
    have hr : Region.ready md ops l = [] := by
      have h0 : (List.range n).filter (fun i => !l.getD i true) = [] := List.eq_nil_of_length_eq_zero (by unfold unl at hu; omega)
      unfold Region.ready
      rw [List.filter_eq_nil_iff] at h0 ⊢
      intro i him
      have := h0 i (by rw [← hn]; exact him)
      intro hc
      rw [Bool.and_eq_true] at hc
      exact this hc.1
    exact ⟨hr, hfin l a w hl hi hr⟩
  | succ fuel ih =>
    intro l a w hl hu hi
    refine ⟨hfin l a w hl hi, fun i him => ?_⟩
    have hm := him
    unfold Region.ready at hm
    rw [List.mem_filter] at hm
    obtain ⟨hr, hc⟩ := hm
    have hin : i < n := by rw [← hn]; exact List.mem_range.1 hr
    rw [Bool.and_eq_true] at hc
    obtain ⟨o, ho⟩ : ∃ o, ops[i]? = some o := ⟨_, Array.getElem?_eq_getElem (by omega)⟩
    have hu0 : l.getD i true = false := by simpa using hc.1
    have hdeps : o.after.all (fun e => !Region.binds md e || l.getD e.on false) = true := by
      have := hc.2
      rw [ho] at this
      simpa using this
    have h1 := step _ a w hi i o ho (by show l.getD i false = false; rw [getD_in (by omega) false true]; exact hu0) hdeps
    refine wpOp_mono (fun a' w' h' => ih _ a' w' (by simp [hl]) (by have := unl_set hl hin hu0; omega) ?_) h1
    have e : (fun j => (l.setIfInBounds i true).getD j false) = dn (fun j => l.getD j false) i := by
      funext j
      rw [getD_set (by omega)]
      rfl
    rw [e]
    exact h'
theorem region_inv {id : Nat} {a : Act} {w : World} (hm : P.follows .mixedOrders = true) {n : Nat} (hn : ops.size = n) (hedge : ops.toList.zipIdx.all (fun x => x.1.after.all (fun e => !Region.binds .any e || decide (e.on < x.2))) = true) (Inv : (Nat → Bool) → Act → World → Prop) (h0 : Inv (fun _ => false) a w.drew)
    (step : ∀ L a w, Inv L a w → ∀ (i : Nat) (o : Oper), ops[i]? = some o → L i = false → (o.after.all (fun e => !Region.binds .any e || L e.on) = true) → wpOp P ops Q i (Inv (dn L i)) a w)
    (fin : ∀ L a w, Inv L a w → (∀ i, i < n → L i = true) → Q .normal a w) : (Code.region id ops true).wp P Q a w := by
  refine wp_region_any hm ?_
  have hedge' : ∀ (i : Nat) (o : Oper), ops[i]? = some o → o.after.all (fun e => !Region.binds .any e || decide (e.on < i)) = true := fun i o ho => by
    rw [List.all_eq_true] at hedge
    refine hedge (o, i) ?_
    rw [List.mem_zipIdx_iff_getElem?]
    simpa using ho
  refine any_inv hn hedge' Inv step fin ops.size _ a _ (by simp [hn]) ?_ ?_
  · unfold unl
    exact Nat.le_trans (List.length_filter_le _ _) (by simp [hn])
  · have e : (fun i => (Array.replicate ops.size false).getD i false) = fun _ => false := by
      funext i
      simp only [Array.getD_eq_getD_getElem?]
      by_cases h : i < ops.size
      · simp [h]
      · simp [h]
    rw [e]
    exact h0
end
end Go.Proofs.Ytkdbnkkdohkhjaa
namespace Go.Proofs.Ytkdbnkkdohkhjaa
open Go.RowKit
set_option linter.unusedVariables false
def blkOf : Value → Option Nat
  | .slice (some p) _ _ => some p.block
  | .pointer (some p) => some p.block
  | _ => none
def BoxP (w1 : World) (v u : Value) (w : World) : Prop := ∃ b, v = .pointer (some ⟨b, 0, none⟩) ∧ w1.heap.size ≤ b ∧ b < w.heap.size ∧ w.cell? ⟨b, 0, none⟩ = some u ∧ w.frozen? ⟨b, 0, none⟩ = false
theorem BoxP.grown {w1 w w' : World} {v u : Value} {row : Option Nat} (h : BoxP w1 v u w) (hg : w.grownBy w' row) (hr : ∀ b, blkOf v = some b → row ≠ some b) : BoxP w1 v u w' := by
  obtain ⟨b, rfl, h1, h2, h3, h4⟩ := h
  have hne : some b ≠ row := fun e => hr b rfl e.symm
  exact ⟨b, rfl, h1, Nat.lt_of_lt_of_le h2 hg.size, (grown_cell hg h2 hne).trans h3, (grown_frozen hg h2 hne).trans h4⟩
/-- a family of rows -/
structure RowFam (w1 : World) (n : Nat) (Row : Nat → Value → World → Prop) : Prop where
  mono : ∀ k v w w' row, k < n → Row k v w → w.grownBy w' row → (∀ b, blkOf v = some b → row ≠ some b) → Row k v w'
  blk : ∀ k v w b, k < n → Row k v w → blkOf v = some b → w1.heap.size ≤ b ∧ b < w.heap.size
structure CI (w1 : World) (n : Nat) (Row : Nat → Value → World → Prop) (Z : Nat → Value) (cd ad sd : Nat → Bool) (V Pt : Nat → Value) (w : World) : Prop where
  bel : Below w1.heap.size w1 w
  row : ∀ k, k < n → cd k = true → Row k (V k) w
  box : ∀ k, k < n → ad k = true → BoxP w1 (Pt k) (if sd k = true then V k else Z k) w
  dVV : ∀ i j b, i < n → j < n → i ≠ j → cd i = true → cd j = true → blkOf (V i) = some b → blkOf (V j) ≠ some b
  dVP : ∀ i j b, i < n → j < n → cd i = true → ad j = true → blkOf (V i) = some b → blkOf (Pt j) ≠ some b
  dPP : ∀ i j b, i < n → j < n → i ≠ j → ad i = true → ad j = true → blkOf (Pt i) = some b → blkOf (Pt j) ≠ some b
  sc : ∀ k, k < n → sd k = true → cd k = true ∧ ad k = true
def updV (V : Nat → Value) (k : Nat) (v : Value) : Nat → Value := fun j => if j = k then v else V j
section
variable {w1 w w' : World} {n k : Nat} {Row : Nat → Value → World → Prop} {Z : Nat → Value} {cd ad sd cd' ad' sd' : Nat → Bool} {V Pt : Nat → Value}
theorem CI.zero (w1 : World) (n : Nat) (Row : Nat → Value → World → Prop) (Z V Pt : Nat → Value) (h : Below w1.heap.size w1 w) : CI w1 n Row Z (fun _ => false) (fun _ => false) (fun _ => false) V Pt w :=
  ⟨h, (fun k _ h => by cases h), (fun k _ h => by cases h), (fun i j b _ _ _ h => by cases h), (fun i j b _ _ h => by cases h), (fun i j b _ _ _ h => by cases h), (fun k _ h => by cases h)⟩
theorem CI.congr (H : CI w1 n Row Z cd ad sd V Pt w) (h1 : ∀ j, j < n → cd' j = cd j) (h2 : ∀ j, j < n → ad' j = ad j) (h3 : ∀ j, j < n → sd' j = sd j) : CI w1 n Row Z cd' ad' sd' V Pt w :=
  ⟨H.bel, fun k hk h => H.row k hk (by rw [← h1 k hk]; exact h), fun k hk h => by rw [h3 k hk]; exact H.box k hk (by rw [← h2 k hk]; exact h),
    fun i j b hi hj hne a c => H.dVV i j b hi hj hne (by rw [← h1 i hi]; exact a) (by rw [← h1 j hj]; exact c),
    fun i j b hi hj a c => H.dVP i j b hi hj (by rw [← h1 i hi]; exact a) (by rw [← h2 j hj]; exact c),
    fun i j b hi hj hne a c => H.dPP i j b hi hj hne (by rw [← h2 i hi]; exact a) (by rw [← h2 j hj]; exact c),
    fun k hk h => by rw [h1 k hk, h2 k hk]; exact H.sc k hk (by rw [← h3 k hk]; exact h)⟩
theorem box_lt {v u : Value} {b : Nat} (h : BoxP w1 v u w) (hb : blkOf v = some b) : w1.heap.size ≤ b ∧ b < w.heap.size := by
  obtain ⟨b', rfl, h1, h2, _, _⟩ := h
  injection hb with hb
  subst hb
  exact ⟨h1, h2⟩
/-- a clone is made -/
theorem CI.call (F : RowFam w1 n Row) (H : CI w1 n Row Z cd ad sd V Pt w) (hk : k < n) (h0 : cd k = false) (hb : Below w.heap.size w w') {v : Value} (hv : Row k v w') (hnew : ∀ b, blkOf v = some b → w.heap.size ≤ b) : CI w1 n Row Z (dn cd k) ad sd (updV V k v) Pt w' := by
  have hg := grown_below (g := none) hb
  have hs : sd k = false := by
    cases h : sd k with
    | false => rfl
    | true => rw [(H.sc k hk h).1] at h0; cases h0
  refine ⟨H.bel.trans (hb.mono H.bel.size), fun j hj h => ?_, fun j hj h => ?_, fun i j b hi hj hne h1 h2 hb1 hb2 => ?_, fun i j b hi hj h1 h2 hb1 hb2 => ?_, H.dPP, fun j hj h => ⟨dn_of (H.sc j hj h).1, (H.sc j hj h).2⟩⟩
  · unfold updV
    by_cases e : j = k
    · subst e; rw [if_pos rfl]; exact hv
    · rw [if_neg e]
      exact F.mono _ _ _ _ _ hj (H.row j hj (of_dn h e)) hg (by simp)
  · have h1 := H.box j hj h
    unfold updV
    by_cases e : j = k
    · subst e
      rw [hs] at h1 ⊢
      exact h1.grown hg (by simp)
    · rw [if_neg e]
      exact h1.grown hg (by simp)
  · unfold updV at hb1 hb2
    by_cases e1 : i = k
    · subst e1
      rw [if_pos rfl] at hb1
      rw [if_neg (fun e => hne e.symm)] at hb2
      have a1 := hnew b hb1
      have a2 := (F.blk _ _ _ _ hj (H.row j hj (of_dn h2 (fun e => hne e.symm))) hb2).2
      omega
    · rw [if_neg e1] at hb1
      by_cases e2 : j = k
      · subst e2
        rw [if_pos rfl] at hb2
        have a1 := hnew b hb2
        have a2 := (F.blk _ _ _ _ hi (H.row i hi (of_dn h1 e1)) hb1).2
        omega
      · rw [if_neg e2] at hb2
        exact H.dVV i j b hi hj hne (of_dn h1 e1) (of_dn h2 e2) hb1 hb2
  · unfold updV at hb1
    by_cases e1 : i = k
    · subst e1
      rw [if_pos rfl] at hb1
      have a1 := hnew b hb1
      have a2 := (box_lt (H.box j hj h2) hb2).2
      omega
    · rw [if_neg e1] at hb1
      exact H.dVP i j b hi hj (of_dn h1 e1) h2 hb1 hb2
/-- a box is made -/
theorem CI.alloc (F : RowFam w1 n Row) (H : CI w1 n Row Z cd ad sd V Pt w) (hk : k < n) (h0 : ad k = false) (ty : TypeId) : CI w1 n Row Z cd (dn ad k) sd V (updV Pt k (.pointer (some ⟨w.heap.size, 0, none⟩))) (w.alloc (.cells #[Z k] ty)) := by
  have hb : Below w.heap.size w (w.alloc (.cells #[Z k] ty)) := (Below.refl _ _).alloc (Nat.le_refl _) _
  have hg := grown_below (g := none) hb
  have hs : sd k = false := by
    cases h : sd k with
    | false => rfl
    | true => rw [(H.sc k hk h).2] at h0; cases h0
  refine ⟨H.bel.trans (hb.mono H.bel.size), fun j hj h => F.mono _ _ _ _ _ hj (H.row j hj h) hg (by simp), fun j hj h => ?_, H.dVV, fun i j b hi hj h1 h2 hb1 hb2 => ?_, fun i j b hi hj hne h1 h2 hb1 hb2 => ?_, fun j hj h => ⟨(H.sc j hj h).1, dn_of (H.sc j hj h).2⟩⟩
  · unfold updV
    by_cases e : j = k
    · subst e
      rw [if_pos rfl, hs]
      exact ⟨_, rfl, H.bel.size, by simp, by simp, by simp [go_sem]⟩
    · rw [if_neg e]
      exact (H.box j hj (of_dn h e)).grown hg (by simp)
  · unfold updV at hb2
    by_cases e : j = k
    · subst e
      rw [if_pos rfl] at hb2
      injection hb2 with hb2
      have a2 := (F.blk _ _ _ _ hi (H.row i hi h1) hb1).2
      have : b = w.heap.size := hb2.symm
      omega
    · rw [if_neg e] at hb2
      exact H.dVP i j b hi hj h1 (of_dn h2 e) hb1 hb2
  · unfold updV at hb1 hb2
    by_cases e1 : i = k
    · subst e1
      rw [if_pos rfl] at hb1
      rw [if_neg (fun e => hne e.symm)] at hb2
      injection hb1 with hb1
      have a2 := (box_lt (H.box j hj (of_dn h2 (fun e => hne e.symm))) hb2).2
      have : b = w.heap.size := hb1.symm
      omega
    · rw [if_neg e1] at hb1
      by_cases e2 : j = k
      · subst e2
        rw [if_pos rfl] at hb2
        injection hb2 with hb2
        have a2 := (box_lt (H.box i hi (of_dn h1 e1)) hb1).2
        have : b = w.heap.size := hb2.symm
        omega
      · rw [if_neg e2] at hb2
        exact H.dPP i j b hi hj hne (of_dn h1 e1) (of_dn h2 e2) hb1 hb2
/-- a clone is put into its box -/
theorem CI.store (F : RowFam w1 n Row) (H : CI w1 n Row Z cd ad sd V Pt w) (hk : k < n) (hc : cd k = true) (ha : ad k = true) {b : Nat} (hp : Pt k = .pointer (some ⟨b, 0, none⟩)) : CI w1 n Row Z cd ad (dn sd k) V Pt (w.setCell ⟨b, 0, none⟩ (V k)) := by
  have hg : w.grownBy (w.setCell ⟨b, 0, none⟩ (V k)) (some b) := grown_set (grown_self _ _) _
  have hbk : blkOf (Pt k) = some b := by rw [hp]; rfl
  refine ⟨below_grown H.bel H.bel.size hg (fun g hg => by injection hg with hg; have := (box_lt (H.box k hk ha) hbk).1; omega), fun j hj h => ?_, fun j hj h => ?_, H.dVV, H.dVP, H.dPP, fun j hj h => ?_⟩
  · exact F.mono _ _ _ _ _ hj (H.row j hj h) hg (fun b' hb' e => by injection e with e; exact H.dVP j k b' hj hk h ha hb' (by rw [hbk, e]))
  · by_cases e : j = k
    · subst e
      rw [dn_self, if_pos rfl]
      obtain ⟨b', h1, h2, h3, h4, h5⟩ := H.box j hj h
      rw [hp] at h1
      injection h1 with h1
      injection h1 with h1
      injection h1 with h1
      subst h1
      refine ⟨b, hp, h2, by simpa using h3, by simp [go_sem, h4], by simpa [go_sem] using h5⟩
    · have e2 : dn sd k j = sd j := by unfold dn; rw [if_neg e]
      rw [e2]
      exact (H.box j hj h).grown hg (fun b' hb' e3 => by injection e3 with e3; exact H.dPP j k b' hj hk e h ha hb' (by rw [hbk, e3]))
  · by_cases e : j = k
    · subst e; exact ⟨hc, ha⟩
    · exact H.sc j hj (of_dn h e)
end
end Go.Proofs.Ytkdbnkkdohkhjaa
