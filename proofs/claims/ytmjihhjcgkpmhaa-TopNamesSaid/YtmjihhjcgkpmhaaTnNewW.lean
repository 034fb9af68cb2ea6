/- cluster.New. -/
import Derived.Test.YtmjihhjcgkpmhaaTnApp
import Derived.Deep.RegionLaw
namespace Go.Proofs.Ytmjihhjcgkpmhaa
open Go.RowKit Go.Maps
set_option linter.unusedVariables false
/-- what a new cluster is -/
def NewPost (N : Nat) (w : World) (e : Ending) (w' : World) : Prop := ∃ p me mh va vb na nb mb tb L, e = .returned (.tuple #[.pointer (some ⟨p, 0, none⟩), .int .i64 0]) ∧ w.heap.size ≤ me ∧ w.heap.size ≤ mh ∧ CB w' p me mh N va vb na nb mb tb L ∧ Below w.heap.size w w'
set_option maxRecDepth 100000 in
set_option maxHeartbeats 8000000 in
theorem new_any (N : Nat) (w : World) (h1 : 1 ≤ N) (h8 : N ≤ 8) : Calls Try.prog 9 #[.int .i64 (N : Int), .iface 39 (.agg #[]), .int .i64 3] w (NewPost N w) := by
  have d1 : decide ((N : Int) < 1) = false := decide_eq_false (by omega)
  have d2 : decide ((8 : Int) < (N : Int)) = false := decide_eq_false (by omega)
  have m1 : ∀ w, (Instr.makeMap 51 none).run Try.prog w = .ok (.map (some w.heap.size)) (w.alloc (.map #[] 0)) := fun w => by kernel_rfl
  have m2 : ∀ w, (Instr.makeMap 52 none).run Try.prog w = .ok (.map (some w.heap.size)) (w.alloc (.map #[] 0)) := fun w => by kernel_rfl
  have m3 : ∀ w, (Instr.makeMap 54 none).run Try.prog w = .ok (.map (some w.heap.size)) (w.alloc (.map #[] 0)) := fun w => by kernel_rfl
  have m4 : ∀ w, (Instr.makeMap 55 none).run Try.prog w = .ok (.map (some w.heap.size)) (w.alloc (.map #[] 0)) := fun w => by kernel_rfl
  go_enter Try.func9, Try.ntmps9
  obtain ⟨iN, hiN, zN1, zN2, zN3⟩ := info_parts infoNP
  obtain ⟨iT, hiT, zT1, zT2, zT3⟩ := info_parts infoTP
  obtain ⟨W0, hW0⟩ : ∃ W0, W0 = (((((w.alloc (.map #[] 0)).alloc (.map #[] 0)).alloc (.map #[] 0)).alloc (.map #[] 0)).alloc (.map #[] 0)).alloc (.cells #[.slice none 0 0, .slice none 0 0, .map (some w.heap.size), .map (some (w.heap.size + 1)), .map (some (w.heap.size + 1 + 1)), .slice none 0 0, .map (some (w.heap.size + 1 + 1 + 1)), .map (some (w.heap.size + 1 + 1 + 1 + 1)), .slice none 0 0] 58) := ⟨_, rfl⟩
  have HB0 := Lib.hid (show Below w.heap.size w W0 by rw [hW0]; exact ((((((Below.refl _ _).alloc (Nat.le_refl _) _).alloc (by simp) _).alloc (by simp; omega) _).alloc (by simp; omega) _).alloc (by simp; omega) _).alloc (by simp; omega) _)
  have HE0 := Lib.hid (show W0.ownsMap (H := Value) Try.prog 76 anyElem w.heap.size 0 (.map []) by rw [hW0]; exact (((((World.ownsMap_made w _ _ _).alloc _).alloc _).alloc _).alloc _).alloc _)
  have HCB := Lib.hid (show CB W0 (w.heap.size + 1 + 1 + 1 + 1 + 1) w.heap.size (w.heap.size + 1 + 1 + 1 + 1) 0 (.slice none 0 0) (.slice none 0 0) (fun _ => 0) (fun _ => 0) (fun _ => 0) (fun _ => 0) (fun _ => w.heap.size + 1 + 1 + 1 + 1 + 1 + 1) by
    have hm : W0.ownsMap Try.prog 3 anyElem (w.heap.size + 1 + 1 + 1 + 1) 0 (.map []) := by
      have h4 : ((((w.alloc (.map #[] 0)).alloc (.map #[] 0)).alloc (.map #[] 0)).alloc (.map #[] 0)).heap.size = w.heap.size + 1 + 1 + 1 + 1 := by simp
      rw [hW0, ← h4]
      exact (World.ownsMap_made _ _ _ _).alloc _
    have hz : W0.heap.size = w.heap.size + 1 + 1 + 1 + 1 + 1 + 1 := by rw [hW0]; simp
    refine ⟨?_, ?_, ?_, ?_, fun o => ?_, World.ownsRow_nil _ _ _ _, World.ownsRow_nil _ _ _ _, fun k hk => by omega, fun k hk => by omega, fun k hk => by omega, fun j k _ _ => Nat.le_refl _, by omega, by omega, ⟨by omega, by omega, by omega⟩, fun g hg => (by cases hg), fun g hg => (by cases hg), fun g hg => (by cases hg), hm⟩
    · rw [hW0]; simp [go_sem]
    · rw [hW0]; simp [go_sem]
    · rw [hW0]; simp [go_sem]
    · rw [hW0]; simp [go_sem]
    · rw [hW0]; simp [go_sem])
  have HW := Lib.hid hW0
  clear hW0
  go_wp2_with fail
  rw [← HW.out]
  clear HW
  generalize hp : w.heap.size + 1 + 1 + 1 + 1 + 1 = p at HCB ⊢
  generalize hmh : w.heap.size + 1 + 1 + 1 + 1 = mh at HCB ⊢
  obtain ⟨me, hme⟩ : ∃ me, me = w.heap.size := ⟨_, rfl⟩
  have HEM := Lib.hid (show W0.ownsMap (H := Value) Try.prog 76 anyElem me 0 (.map []) by rw [hme]; exact HE0.out)
  have HCB := Lib.hid (show CB W0 p me mh 0 (.slice none 0 0) (.slice none 0 0) (fun _ => 0) (fun _ => 0) (fun _ => 0) (fun _ => 0) (fun _ => p + 1) by rw [hme]; exact HCB.out)
  have HQ := Lib.hid (show w.heap.size ≤ me ∧ w.heap.size ≤ mh ∧ w.heap.size ≤ p from ⟨by omega, by omega, by omega⟩)
  clear hp hmh hme HE0
  go_loopw [9] (fun x wr => ∃ (i : Nat) (va vb : Value) (na nb mb tb L : Nat → Nat) (n : Nat) (D : DataW Value), i ≤ N ∧ x = .int .i64 ((i : Int) + 1) ∧ CB wr p me mh i va vb na nb mb tb L ∧ n ≤ 10 * i ∧ wr.ownsMap Try.prog 76 anyElem me n D ∧ Below w.heap.size w wr) (fun x _ => N + 1 - (intOf x).toNat)
  case atStart => exact ⟨0, _, _, _, _, _, _, _, _, _, by omega, rfl, HCB.out, by omega, HEM.out, HB0.out⟩
  case round =>
    obtain ⟨i, va, vb, na, nb, mb, tb, L, n, D, hiN, rfl, hCB, hn, hE, hB⟩ := hrel
    have HC := Lib.hid hCB
    have HE := Lib.hid hE
    have HB := Lib.hid hB
    by_cases hi : i < N
    · have hd : decide ((i : Int) + 1 ≤ (N : Int)) = true := decide_eq_true (by omega)
      have i1 : (i : Int) + 1 ≤ 8 := by omega
      clear hCB hE hB
      go_wp2_with fail
      refine (dnew_any ((i : Int) + 1) wr (by omega) (by omega)).mono ?_
      rintro e w1 ⟨b, m, rfl, hb1, hb2, hN, hbl⟩
      have HN := Lib.hid hN
      have HB1 := Lib.hid hbl
      have HL1 := Lib.hid (And.intro hb1 hb2)
      clear hb1 hb2 hN hbl
      go_wp2_with fail
      refine (nnew_any ((i : Int) + 1) w1 (by omega) (by omega)).mono ?_
      rintro e w2 ⟨t, mm, rfl, hb1, hb2, hN, hbl⟩
      have HM := Lib.hid hN
      have HB2 := Lib.hid hbl
      have HL2 := Lib.hid (And.intro hb1 hb2)
      clear hb1 hb2 hN hbl
      have HC2 := Lib.hid ((HC.out.below HB1.out).below HB2.out)
      go_wp2_with fail
      have c0 := HC2.out.c0
      have c1 := HC2.out.c1
      have f0 := HC2.out.fz 0
      have f1 := HC2.out.fz 1
      obtain ⟨Aa, ca, rfl, -, -, -⟩ := own_any HC2.out.ra
      obtain ⟨Ab, cb, rfl, -, -, -⟩ := own_any HC2.out.rb
      have hpl : p < w2.heap.size := World.block_lt_of_cell? w2 _ c0
      have HQ0 := Lib.hid (show Q2 w2 p i (.slice Aa i ca) (.slice Ab i cb) (ptrs nb i) (ptrs tb i) (.pointer (some ⟨b, 0, none⟩)) (.pointer (some ⟨t, 0, none⟩)) none none w2.drew from Q2.start HC2.out.ra HC2.out.rb hpl HC2.out.gab)
      have hi9 : i < 9 := by omega
      have HP := Lib.hid (And.intro c0 (And.intro c1 (And.intro f0 f1)))
      clear c0 c1 f0 f1
      have c0 : w2.drew.cell? ⟨p, 0, none⟩ = some (.slice Aa i ca) := HP.out.1
      have c1 : w2.drew.cell? ⟨p, 1, none⟩ = some (.slice Ab i cb) := HP.out.2.1
      have f0 : w2.drew.frozen? ⟨p, 0, none⟩ = false := HP.out.2.2.1
      have f1 : w2.drew.frozen? ⟨p, 1, none⟩ = false := HP.out.2.2.2
      have c0w := HP.out.1
      have c1w := HP.out.2.1
      have f0w := HP.out.2.2.1
      have f1w := HP.out.2.2.2
      go_cut [] (fun wx => ∃ ga gca gb gcb W', Q2 w2 p i (.slice Aa i ca) (.slice Ab i cb) (ptrs nb i) (ptrs tb i) (.pointer (some ⟨b, 0, none⟩)) (.pointer (some ⟨t, 0, none⟩)) (some (.slice (some ⟨ga, 0, none⟩) (i + 1) gca)) (some (.slice (some ⟨gb, 0, none⟩) (i + 1) gcb)) W' ∧ wx = (W'.setCell ⟨p, 0, none⟩ (.slice (some ⟨ga, 0, none⟩) (i + 1) gca)).setCell ⟨p, 1, none⟩ (.slice (some ⟨gb, 0, none⟩) (i + 1) gcb))
      case first =>
        go_region_law
          (first
            | (refine step_qa (w2 := w2) (p := p) (i := i) (va := .slice Aa i ca) (vb := .slice Ab i cb) (xa := ptrs nb i) (xb := ptrs tb i) (x := .pointer (some ⟨b, 0, none⟩)) (yb := .pointer (some ⟨t, 0, none⟩)) (by rfl) _ _ (by rfl) (by rfl) (by rfl) (by first | (simp [go_sem]; done) | exact HK1.out _ _ (by first | exact Nat.le_refl _ | (simp; done) | (simp; omega)) (by simp [go_sem])) rfl hi9 (by first | exact HQ1.out | exact HQ1.out.alloc _ | exact HQ0.out | exact HQ0.out.alloc _ | exact (HQ0.out.alloc _).alloc _) ?_; intro ga gca W5 HQ' HK'; have HQ1 := Lib.hid HQ'; have HK1 := Lib.hid HK'; have c0 := HQ'.cells 0 _ HP.out.1; have c1 := HQ'.cells 1 _ HP.out.2.1; have hz5 := World.block_lt_of_cell? W5 _ c0; dsimp only at hz5; have f0 := HQ'.froz 0 HP.out.2.2.1; have f1 := HQ'.froz 1 HP.out.2.2.2; clear HQ' HK')
            | (refine step_qb (w2 := w2) (p := p) (i := i) (va := .slice Aa i ca) (vb := .slice Ab i cb) (xa := ptrs nb i) (xb := ptrs tb i) (x := .pointer (some ⟨t, 0, none⟩)) (ya := .pointer (some ⟨b, 0, none⟩)) (by rfl) _ _ (by rfl) (by rfl) (by rfl) (by first | (simp [go_sem]; done) | exact HK1.out _ _ (by first | exact Nat.le_refl _ | (simp; done) | (simp; omega)) (by simp [go_sem])) rfl hi9 (by first | exact HQ1.out | exact HQ1.out.alloc _ | exact HQ0.out | exact HQ0.out.alloc _ | exact (HQ0.out.alloc _).alloc _) ?_; intro gb gcb W5 HQ' HK'; have HQ1 := Lib.hid HQ'; have HK1 := Lib.hid HK'; have c0 := HQ'.cells 0 _ HP.out.1; have c1 := HQ'.cells 1 _ HP.out.2.1; have hz5 := World.block_lt_of_cell? W5 _ c0; dsimp only at hz5; have f0 := HQ'.froz 0 HP.out.2.2.1; have f1 := HQ'.froz 1 HP.out.2.2.2; clear HQ' HK'))
        all_goals
          go_wp2_with fail
          go_meet
          exact ⟨_, _, _, _, _, HQ1.out, rfl⟩
      case rest =>
        rename World => wc
        obtain ⟨ga, gca, gb, gcb, W', hQ, hwx⟩ := hcut
        have hF1 : Fr (fun x => x = p) W' wc := by rw [hwx]; exact Fr.set (S := fun x => x = p) (Fr.set (S := fun x => x = p) (Fr.refl _ W') (.inl rfl) _) (.inl rfl) _
        have hF2 : Fr (fun x => x = p ∨ (Value.slice Aa i ca).ownBlock = some x ∨ (Value.slice Ab i cb).ownBlock = some x) w2 wc := hQ.fr.trans' (hF1.weak fun x h => .inl h)
        have ba := hQ.ra.blk (fun g e => (hQ.lta g e).1) hQ.pl
        have bb := hQ.rb.blk (fun g e => (hQ.ltb g e).1) hQ.pl
        have HCN := Lib.hid (HC.out.more (n := m) (b := b) (m := mm) (t := t) HB1.out HB2.out ⟨HL1.out.2, HL1.out.1⟩ ⟨HL2.out.2, HL2.out.1⟩ HN.out HM.out hF2
          (by rw [hwx]; simp [go_sem, hQ.cells 0 _ HP.out.1]) (by rw [hwx]; simp [go_sem, hQ.cells 1 _ HP.out.2.1]) (by rw [hwx]; simp [go_sem, hQ.cells 2 _ HC2.out.c2]) (by rw [hwx]; simp [go_sem, hQ.cells 7 _ HC2.out.c7]) (fun o => by rw [hwx]; simpa [go_sem] using hQ.froz o (HC2.out.fz o))
          (hF1.row hQ.ra.2.1 (fun g e h => by have := (ba g e).1; omega)) (hF1.row hQ.rb.2.1 (fun g e h => by have := (bb g e).1; omega)) hQ.ra.2.2 hQ.rb.2.2 hQ.ne)
        have HEC := Lib.hid (show wc.ownsMap Try.prog 76 anyElem me n D from hF2.map ((Fr.of_below (S := fun _ => False) HB2.out).map ((Fr.of_below (S := fun _ => False) HB1.out).map HE.out (fun h => h)) (fun h => h)) (by
          have hmp := HC2.out.mp
          rintro (h | h | h)
          · omega
          · have := (hQ.lta _ h).1; omega
          · have := (hQ.ltb _ h).1; omega))
        have HBC := Lib.hid (show Below w.heap.size w wc from by
          have hb2 : Below w.heap.size w w2 := (HB.out.trans (HB1.out.mono HB.out.size)).trans (HB2.out.mono (Nat.le_trans HB.out.size HB1.out.size))
          refine hb2.trans (hF2.below (fun x hx => ?_) hb2.size)
          have hq := HQ.out.2.2
          rcases hx with h | h | h
          · omega
          · have := (hQ.lta _ h).1; omega
          · have := (hQ.ltb _ h).1; omega)
        obtain ⟨L', hCN⟩ := HCN.out
        have HCN := Lib.hid hCN
        clear hQ hF1 hF2 ba bb hCN hwx HC2 HC HN HM HB1 HB2 HQ0 HP c0 c1 f0 f1 c0w c1w f0w f1w
        go_wp2_with fail
        go_loopw [13] (fun x wi => ∃ (k n' : Nat) (D' : DataW Value), k ≤ N ∧ x = .int .i64 ((k : Int) + 1) ∧ CB wi p me mh (i + 1) (.slice (some ⟨ga, 0, none⟩) (i + 1) gca) (.slice (some ⟨gb, 0, none⟩) (i + 1) gcb) (updN na i m) (updN nb i b) (updN mb i mm) (updN tb i t) L' ∧ n' ≤ 10 * i + k ∧ wi.ownsMap Try.prog 76 anyElem me n' D' ∧ Below w.heap.size w wi) (fun x _ => N + 1 - (intOf x).toNat)
        case atStart => exact ⟨0, n, D, by omega, rfl, HCN.out, by omega, HEC.out, HBC.out⟩
        case round =>
          rename World => wi
          obtain ⟨k, n', D', hkN, rfl, hCi, hn', hEi, hBi⟩ := hrel
          have HCi := Lib.hid hCi
          have HEi := Lib.hid hEi
          have HBi := Lib.hid hBi
          by_cases hk : k < N
          · have hd2 : decide ((k : Int) + 1 ≤ (N : Int)) = true := decide_eq_true (by omega)
            by_cases hki : k = i
            · have hne : ((k : Int) + 1 != (i : Int) + 1) = false := by simp [hki]
              have HKI := Lib.hid hki
              clear hCi hEi hBi hki
              go_wp2_with fail
              exact ⟨⟨k + 1, n', D', by omega, by go_num, HCi.out, by omega, HEi.out, HBi.out⟩, by simp [intOf]; omega⟩
            · have hne : ((k : Int) + 1 != (i : Int) + 1) = true := by simp; omega
              have c2 : wi.drew.cell? ⟨p, 2, none⟩ = some (.map (some me)) := hCi.c2
              have hpl2 : p < wi.drew.heap.size := World.block_lt_of_cell? wi _ hCi.c0
              have hmp := hCi.mp
              have HPM := Lib.hid (show p < wi.drew.heap.size ∧ me < p from ⟨hpl2, hmp.1⟩)
              obtain ⟨kl, hkl⟩ := keyW (i + 1) (k + 1) (by omega) (by omega)
              have hkl : keyOf Try.prog 76 (.agg #[.int .i64 ((i : Int) + 1), .int .i64 ((k : Int) + 1)]) = some kl := hkl
              have HKL := Lib.hid hkl
              clear hCi hEi hBi hkl hmp
              go_wp2_with fail
              go_region_held3 (fun W => W.cell? ⟨p, 2, none⟩ = some (.map (some me)))
                (first | exact c2 | exact z2 | exact x2 | go_keep)
                (first
                  | (go_at_call 21; refine (lnew_any wi.drew).mono ?_; rintro e wa ⟨tl, rfl, hb⟩; have HBA := Lib.hid (show Below wi.heap.size wi wa from below_drew' hb); have z2 := (hb.cell (p := ⟨p, 2, none⟩) hpl2).trans c2; have hEa : wa.ownsMap Try.prog 76 anyElem me n' D' := (Fr.of_below (S := fun _ => False) HBA.out).map HEi.out (fun h => h); obtain ⟨wb, hrun, hEb, hgb⟩ := hEa.update lawW Try.underlying51 (by unfold maxLen; omega) HKL.out (show anyElem (.pointer (some ⟨tl, 0, none⟩)) = some (.held _, []) from rfl); have HEB := Lib.hid hEb; have HGB := Lib.hid hgb; have x2 := (grown_cell (b := p) (o := 2) hgb (World.block_lt_of_cell? wa _ z2) (fun e => by injection e; have := HPM.out.2; omega)).trans z2; clear hEa hEb hgb hb))
              all_goals
                go_wp2_with fail
                exact ⟨⟨k + 1, n' + 1, _, by omega, by go_num, (HCi.out.below HBA.out).ends HGB.out, by omega, HEB.out, (HBi.out.trans (HBA.out.mono HBi.out.size)).grown HGB.out (Nat.le_trans HBi.out.size HBA.out.size) (fun g e => by injection e with e; have := HQ.out.1; omega)⟩, by simp [intOf]; omega⟩
          · have hd2 : decide ((k : Int) + 1 ≤ (N : Int)) = false := decide_eq_false (by omega)
            clear hCi hEi hBi
            go_wp2_with fail
            exact ⟨⟨i + 1, _, _, _, _, _, _, _, n', D', by omega, by go_num, HCi.out, by omega, HEi.out, HBi.out⟩, by simp [intOf]; omega⟩
    · have hd : decide ((i : Int) + 1 ≤ (N : Int)) = false := decide_eq_false (by omega)
      obtain rfl : i = N := by omega
      clear hCB hE hB
      go_wp2_with fail
      refine bodyPost_ret (results_two Try.results9 _ _) rfl ?_
      exact ⟨p, me, mh, va, vb, na, nb, mb, tb, L, rfl, HQ.out.1, HQ.out.2.1, HC.out, HB.out⟩
end Go.Proofs.Ytmjihhjcgkpmhaa
