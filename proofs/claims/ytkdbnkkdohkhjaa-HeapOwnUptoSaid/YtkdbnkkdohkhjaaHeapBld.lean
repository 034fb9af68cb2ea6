/- heap.build and heap.Build. -/
import Derived.Test.YtkdbnkkdohkhjaaHeapBldPlain
import Derived.Test.YtkdbnkkdohkhjaaHeapObjs
import Derived.Test.YtkdbnkkdohkhjaaInts
namespace Go.Proofs.Ytkdbnkkdohkhjaa
open Go.RowKit
set_option linter.unusedVariables false
set_option maxHeartbeats 400000 in
theorem kinds_any (w : World) : Calls Try.prog 91 #[] w fun e w' => e = .returned (.agg #[.int .i64 0, .int .i64 2, .int .i64 4, .int .i64 5, .int .i64 7, .int .i64 8]) ∧ Below w.heap.size w w' := by
  go_enter Try.func91, Try.ntmps91
  go_wp2_with fail
  refine bodyPost_ret (v := .agg #[.int .i64 0, .int .i64 2, .int .i64 4, .int .i64 5, .int .i64 7, .int .i64 8]) (by simp [results, Try.results91, go_sem]) rfl ⟨rfl, ?_⟩
  exact (Below.refl _ _).alloc (Nat.le_refl _) _
theorem ofW_nat {k m : Int} {s : ByteArray} {n : Nat} (hb : ofB k m s n = true) : (((ofW k m s n).toNat : Nat) : Int) = ofW k m s n := by
  have h1 := hb
  unfold ofB at h1
  simp only [Bool.and_eq_true] at h1
  have h2 := (okR_word h1.2).2.2.2
  unfold ofW
  rw [if_pos hb]
  unfold U64 at h2
  omega
/-- what build answers: the heap with the value's objects, and the value's word -/
def BldPost (r : Option (List Nat × Nat)) (base : Nat) (row : Option Nat) (w : World) (e : Ending) (w' : World) : Prop :=
  (∃ g x A c, r = some (g, x) ∧ e = .returned (.tuple #[.slice A g.length c, .int .u64 (x : Nat), .int .i64 0]) ∧ OwnU w' base (.slice A g.length c) g ∧ w.grownBy w' row ∧ ∀ k, (Value.slice A g.length c).ownBlock = some k → row = some k ∨ w.heap.size ≤ k) ∨
  (r = none ∧ ∃ x : Int, x ≠ 0 ∧ e = .returned (.tuple #[.slice none 0 0, .int .u64 0, .int .i64 x]) ∧ w.grownBy w' row)
def BldOk (t : VT) : Prop := ∀ (cs : List Value) (h : List Nat) (hA : Option Addr) (hc base : Nat) (w : World), t.isV w (fun b => (Value.slice hA h.length hc).ownBlock ≠ some b) cs → t.many ≤ 100000 → OwnU w base (.slice hA h.length hc) h → base ≤ w.heap.size → h.length ≤ 4194304 →
  Calls Try.prog 75 #[.slice hA h.length hc, .agg cs.toArray] w (BldPost (t.bld h) base (Value.slice hA h.length hc).ownBlock w)
/-- the objects so far, while build is at its arguments -/
structure BL (wr : World) (b : Nat) (kd m : Int) (s : ByteArray) (pv : Value) : Prop where
  c0 : wr.cell? ⟨b, 0, none⟩ = some (.int .i64 0)
  c1 : wr.cell? ⟨b, 1, none⟩ = some (.int .i64 kd)
  c2 : wr.cell? ⟨b, 2, none⟩ = some (.int .i64 m)
  c3 : wr.cell? ⟨b, 3, none⟩ = some (.string s)
  c4 : wr.cell? ⟨b, 4, none⟩ = some pv
  fr : ∀ o, wr.frozen? ⟨b, o, none⟩ = false
  sz : b < wr.heap.size
theorem BL.grown {wx wy : World} {b : Nat} {kd m : Int} {s : ByteArray} {pv : Value} {row : Option Nat} (h : BL wx b kd m s pv) (hg : wx.grownBy wy row) (hr : row ≠ some b) : BL wy b kd m s pv := by
  have k0 : ∀ o, wy.cell? ⟨b, o, none⟩ = wx.cell? ⟨b, o, none⟩ := fun o => grown_cell hg h.sz (fun e => hr e.symm)
  exact ⟨(k0 _).trans h.c0, (k0 _).trans h.c1, (k0 _).trans h.c2, (k0 _).trans h.c3, (k0 _).trans h.c4, fun o => (grown_frozen hg h.sz (fun e => hr e.symm)).trans (h.fr o), by have := hg.size; have := h.sz; omega⟩
theorem BL.put {wx : World} {b : Nat} {kd m : Int} {s : ByteArray} {pv : Value} (h : BL wx b kd m s pv) (u : Value) : BL (wx.setCell ⟨b, 4, none⟩ u) b kd m s u := by
  have x4 : (wx.cell? ⟨b, 4, none⟩).isSome = true := by rw [h.c4]; rfl
  constructor
  · simp [go_sem, h.c0]
  · simp [go_sem, h.c1]
  · simp [go_sem, h.c2]
  · simp [go_sem, h.c3]
  · simp [go_sem, x4]
  · intro o; simp [go_sem, h.fr]
  · simpa using h.sz
set_option maxHeartbeats 4000000 in
set_option maxRecDepth 100000 in
theorem build_node (k m : Int) (s : ByteArray) (n : Nat) (arg : Nat → VT) (ih : ∀ i, BldOk (arg i)) : BldOk (.node k m s n arg) := by
  intro cs h hA hc base w hV hm hH hbase hlen
  have hV' := hV
  obtain ⟨A, c, rfl, hnc, hcm, hAn, _⟩ := hV'
  have HV := Lib.hid hV
  have HH := Lib.hid hH
  have IH := Lib.hid ih
  have hn : n ≤ 100000 := by
    by_cases h0 : 0 < n
    · obtain ⟨b, off, _, _, _, C, hC⟩ := isV_arg hV h0
      have h1 : n ≤ sumTo (fun i => (arg i).many) n := len_sumTo fun i hi => isV_many (hC i hi).1
      simp only [VT.many] at hm
      omega
    · omega
  have HM := Lib.hid (show ∀ i, i < n → (arg i).many ≤ 100000 from fun i hi => by
    have h1 := le_sumTo (g := fun i => (arg i).many) hi
    simp only [VT.many] at hm
    omega)
  clear hV hH ih hm
  cases hb : ofB k m s n with
  | true =>
    have HB := Lib.hid hb
    have HR := Lib.hid (show (VT.node k m s n arg).bld h = some (h, (ofW k m s n).toNat) by simp [VT.bld, hb])
    have HW := Lib.hid (show (((ofW k m s n).toNat : Nat) : Int) = ofW k m s n from ofW_nat hb)
    clear hb
    go_enter Try.func75, Try.ntmps75
    go_wp2_with fail
    refine (of_any _ _ _ _ _ _ _).mono ?_
    rintro e w' ⟨rfl, rfl⟩
    rw [HB.out]
    go_wp2_with fail
    go_ret3
    exact .inl ⟨h, (ofW k m s n).toNat, hA, hc, HR.out, by rw [HW.out]; rfl, (HH.out.alloc _).alloc _, grown_alloc (World.grownBy_alloc _ _ _) _, fun k hk => .inl hk⟩
  | false =>
    have HB := Lib.hid hb
    clear hb
    go_enter Try.func75, Try.ntmps75
    go_wp2_with fail
    refine (of_any _ _ _ _ _ _ _).mono ?_
    rintro e w' ⟨rfl, rfl⟩
    rw [HB.out]
    go_wp2_with fail
    refine (kinds_any _).mono ?_
    rintro e w1 ⟨rfl, hb1⟩
    have HB1 := Lib.hid ((((Below.refl w.heap.size w).alloc (Nat.le_refl _) (.cells #[.int .i64 k, .int .i64 m, .string s, .slice A n c] 90)).alloc (by simp) (.cells #[.int .i64 k, .int .i64 m, .string s, .slice A n c] 90)).trans (hb1.mono (by simp; omega)))
    have v0 : w1.cell? ⟨w.heap.size, 0, none⟩ = some (.int .i64 k) := (hb1.cell (p := ⟨_, _, none⟩) (by simp; omega)).trans (by simp)
    have v1 : w1.cell? ⟨w.heap.size, 1, none⟩ = some (.int .i64 m) := (hb1.cell (p := ⟨_, _, none⟩) (by simp; omega)).trans (by simp)
    have v2 : w1.cell? ⟨w.heap.size, 2, none⟩ = some (.string s) := (hb1.cell (p := ⟨_, _, none⟩) (by simp; omega)).trans (by simp)
    have v3 : w1.cell? ⟨w.heap.size, 3, none⟩ = some (.slice A n c) := (hb1.cell (p := ⟨_, _, none⟩) (by simp; omega)).trans (by simp)
    have hz1 : w.heap.size + 2 ≤ w1.heap.size := by have := hb1.size; simp at this; omega
    clear hb1
    go_wp2_with fail
    obtain ⟨W2, hW2⟩ : ∃ W2, W2 = w1.alloc (.cells #[.int .i64 0, .int .i64 2, .int .i64 4, .int .i64 5, .int .i64 7, .int .i64 8] 161) := ⟨_, rfl⟩
    rw [← hW2]
    have HK := Lib.hid (show Rd W2 1 (tmC kindsF) (some ⟨w1.heap.size, 0, none⟩) 6 from fun _ => ⟨_, 0, rfl, by rw [hW2]; simp, fun j hj i u hu => by
      match i, hu with
      | 0, hu =>
        simp [tmC] at hu
        subst hu
        rw [hW2]
        have hj' : j = 0 ∨ j = 1 ∨ j = 2 ∨ j = 3 ∨ j = 4 ∨ j = 5 := by omega
        rcases hj' with rfl | rfl | rfl | rfl | rfl | rfl <;> simp [kindsF]⟩)
    have HB2 := Lib.hid (show Below w.heap.size w W2 by rw [hW2]; exact HB1.out.alloc HB1.out.size _)
    have b12 : Below w1.heap.size w1 W2 := by rw [hW2]; exact (Below.refl _ _).alloc (Nat.le_refl _) _
    have y0 : W2.cell? ⟨w.heap.size, 0, none⟩ = some (.int .i64 k) := (b12.cell (p := ⟨_, _, none⟩) (by simp; omega)).trans v0
    have y1 : W2.cell? ⟨w.heap.size, 1, none⟩ = some (.int .i64 m) := (b12.cell (p := ⟨_, _, none⟩) (by simp; omega)).trans v1
    have y2 : W2.cell? ⟨w.heap.size, 2, none⟩ = some (.string s) := (b12.cell (p := ⟨_, _, none⟩) (by simp; omega)).trans v2
    have y3 : W2.cell? ⟨w.heap.size, 3, none⟩ = some (.slice A n c) := (b12.cell (p := ⟨_, _, none⟩) (by simp; omega)).trans v3
    have yz : w1.heap.size < W2.heap.size := by rw [hW2]; simp
    have x0 : W2.cell? ⟨w1.heap.size, 0, none⟩ = some (.int .i64 0) := by rw [hW2]; simp
    clear v0 v1 v2 v3 hW2
    go_quiet ((go_at_call 61; exact Calls.quiet_of_same (v := .int .i64 (kdOf k)) ((indexI_any (some ⟨w1.heap.size, 0, none⟩) 6 6 kindsF k _ (by omega) (HK.out.below (below_drewN (Below.refl _ _) _))).mono fun e w' ⟨he, hw⟩ => ⟨he, hw.symm⟩)))
    obtain ⟨W3, hW3⟩ : ∃ W3, W3 = W2.drewN nq := ⟨_, rfl⟩
    rw [← hW3]
    have HB3 := Lib.hid (show Below w.heap.size w W3 by rw [hW3]; exact below_drewN HB2.out _)
    have z0 : W3.cell? ⟨w.heap.size, 0, none⟩ = some (.int .i64 k) := by rw [hW3]; exact y0
    have z1 : W3.cell? ⟨w.heap.size, 1, none⟩ = some (.int .i64 m) := by rw [hW3]; exact y1
    have z2 : W3.cell? ⟨w.heap.size, 2, none⟩ = some (.string s) := by rw [hW3]; exact y2
    have z3 : W3.cell? ⟨w.heap.size, 3, none⟩ = some (.slice A n c) := by rw [hW3]; exact y3
    have zz : w.heap.size < W3.heap.size := by rw [hW3]; show _ < W2.heap.size; omega
    clear y0 y1 y2 y3 yz x0 hW3 b12
    obtain ⟨K, hK⟩ : ∃ K, K = kdOf k := ⟨_, rfl⟩
    have HKK := Lib.hid hK
    rw [← hK]
    obtain ⟨hk1, hk2⟩ : -1 ≤ K ∧ K ≤ 5 := by rw [hK]; exact kdOf_le k
    clear hK
    cases hgo : goesB k m with
    | false =>
      have HGO := Lib.hid (show (VT.node k m s n arg).bld h = none by simp [VT.bld, HB.out, hgo])
      have hgo' : ¬ (1 ≤ K) ∨ (1 ≤ K ∧ ¬ m = 0 ∧ hasN K = false) := by
        unfold goesB at hgo
        rw [← HKK.out] at hgo
        by_cases h1 : 1 ≤ K
        · refine .inr ⟨h1, ?_⟩
          simp [h1] at hgo
          exact hgo
        · exact .inl h1
      clear hgo
      rcases hgo' with h1 | ⟨h1, h2, h3⟩
      · have d1 : decide (K < 1) = true := by simp; omega
        go_wp2_with fail
        go_ret3
        exact .inr ⟨HGO.out, 1, by omega, rfl, grown_below HB3.out⟩
      · have d1 : decide (K < 1) = false := by simp; omega
        have d2 : (m != 0) = true := by simpa using h2
        have H3 := Lib.hid h3
        clear h2 h3
        go_wp2_with fail
        refine (hasNum_any _ _).mono ?_
        rintro e w' ⟨rfl, rfl⟩
        rw [H3.out]
        go_wp2_with fail
        go_ret3
        exact .inr ⟨HGO.out, 1, by omega, rfl, grown_below HB3.out⟩
    | true =>
      have hgo' : 1 ≤ K ∧ (m = 0 ∨ (¬ m = 0 ∧ hasN K = true)) := by
        unfold goesB at hgo
        rw [← HKK.out] at hgo
        simp only [Bool.and_eq_true, Bool.or_eq_true, decide_eq_true_eq, beq_iff_eq] at hgo
        refine ⟨hgo.1, ?_⟩
        by_cases h1 : m = 0
        · exact .inl h1
        · exact .inr ⟨h1, hgo.2.resolve_left h1⟩
      have HGO := Lib.hid hgo
      obtain ⟨h1, h2⟩ := hgo'
      have H2 := Lib.hid h2
      have d1 : decide (K < 1) = false := by simp; omega
      clear hgo h2
      go_upto_region 6 with (fail)
      go_cut [43] (fun x wx => x = .bool false ∧ W3 = wx)
      case first =>
        rcases H2.out with h2 | ⟨h2, h3⟩
        · have d2 : (m != 0) = false := by simpa using h2
          clear h2
          go_wp2_with fail
          go_meet
          exact ⟨rfl, rfl⟩
        · have d2 : (m != 0) = true := by simpa using h2
          have H3 := Lib.hid h3
          clear h2 h3
          go_wp2_with fail
          refine (hasNum_any _ _).mono ?_
          rintro e w' ⟨rfl, rfl⟩
          rw [H3.out]
          go_wp2_with fail
          go_meet
          exact ⟨rfl, rfl⟩
      case rest =>
      obtain ⟨hx7, hw7⟩ := hcut
      subst hx7 hw7
      go_wp2_with fail
      obtain ⟨W4, hW4⟩ : ∃ W4, W4 = W3.alloc (.cells #[.int .i64 0, .int .i64 K, .int .i64 m, .string s, .slice none 0 0] 33) := ⟨_, rfl⟩
      rw [← hW4]
      have HBL := Lib.hid (show BL W4 W3.heap.size K m s (.slice none 0 0) by
        rw [hW4]
        constructor
        any_goals (first | simp [go_sem] | (intro o; simp [go_sem])))
      have HB4 := Lib.hid (show Below w.heap.size w W4 by rw [hW4]; exact HB3.out.alloc HB3.out.size _)
      have hz4 : W3.heap.size < W4.heap.size := by rw [hW4]; simp
      clear hW4 z0 z1 z2 z3
      go_loopw [0, 13, 14, 15, 53] (fun hv _ _ _ i wr => ∃ (q : Nat) (g ps : List Nat) (gA : Option Addr) (gc : Nat) (pA : Option Addr) (pc : Nat), .slice gA g.length gc = hv ∧ i = .int .i64 (q : Int) ∧ q ≤ n ∧ bldArgs (fun i => (arg i).bld) q h = some (g, ps) ∧ OwnU wr base (.slice gA g.length gc) g ∧ g.length ≤ 4194304 ∧
          (∀ k, (Value.slice gA g.length gc).ownBlock = some k → (Value.slice hA h.length hc).ownBlock = some k ∨ W3.heap.size < k) ∧ OwnU wr (W3.heap.size + 1) (.slice pA ps.length pc) ps ∧ (∀ k, (Value.slice pA ps.length pc).ownBlock = some k → (Value.slice gA g.length gc).ownBlock ≠ some k) ∧ BL wr W3.heap.size K m s (.slice pA ps.length pc) ∧ w.grownBy wr (Value.slice hA h.length hc).ownBlock)
        (fun _ _ _ _ i _ => n - (intOf i).toNat)
      case atStart =>
        refine ⟨0, h, [], hA, hc, none, 0, rfl, rfl, Nat.zero_le _, rfl, HH.out.below HB4.out, hlen, fun k hk => .inl hk, OwnU.nil _ _, fun k hk => by simp [Value.ownBlock] at hk, HBL.out, grown_below HB4.out⟩
      case round =>
        obtain ⟨q, g, ps, gA, gc, pA, pc, rfl, rfl, hq, hba, hOg, hgl, hgb, hOp, hne, hBL, hG⟩ := hrel
        have HBA := Lib.hid hba
        have HOG := Lib.hid hOg
        have HGB := Lib.hid hgb
        have HOP := Lib.hid hOp
        have HNE := Lib.hid hne
        have HBR := Lib.hid hBL
        have HGR := Lib.hid hG
        have HPL := Lib.hid (bldArgs_len hba)
        have hpl : ps.length ≤ 100000 := by have := bldArgs_len hba; omega
        have hsz := hG.size
        clear hba hOg hgb hOp hne hBL hG
        have HCO := Lib.hid (show (Value.slice gA g.length gc).ownBlock = (Value.slice hA h.length hc).ownBlock ∨ ∀ k, (Value.slice gA g.length gc).ownBlock = some k → w.heap.size ≤ k by
            cases hob : (Value.slice gA g.length gc).ownBlock with
            | none => exact .inr (fun k hk => by cases hk)
            | some k0 =>
              rcases HGB.out k0 hob with h1 | h1
              · exact .inl h1.symm
              · exact .inr (fun k hk => by injection hk with hk; omega))
        by_cases hlt : q < n
        · obtain ⟨b, off, rfl, hbk, hSb, D, hD⟩ := isV_arg HV.out (by omega)
          obtain ⟨hDq, hcell⟩ := hD q hlt
          obtain ⟨k', m', s', A', n', c', hCq⟩ := isV_cells hDq
          have hblk : ∀ b, (Value.slice hA h.length hc).ownBlock ≠ some b → b < w.heap.size → wr.heap[b]? = w.heap[b]? := fun b hs hl => HGR.out.block b hl (fun e => hs e.symm)
          have hDr := isV_frame (w' := wr) (S' := fun b => (Value.slice gA g.length gc).ownBlock ≠ some b) hsz (fun b hs hl => ⟨fun e => by
            rcases HGB.out b e with h1 | h1
            · exact hs h1
            · omega, hblk b hs hl⟩) hDq
          rw [hCq] at hcell hDr
          have c0 : wr.cell? ⟨b, off + q * 4, none⟩ = some (.int .i64 k') := (World.cell?_of_block (a := ⟨b, _, none⟩) (hblk b hSb hbk)).trans (hcell 0 _ rfl)
          have c1 : wr.cell? ⟨b, off + q * 4 + 1, none⟩ = some (.int .i64 m') := (World.cell?_of_block (a := ⟨b, _, none⟩) (hblk b hSb hbk)).trans (hcell 1 _ rfl)
          have c2 : wr.cell? ⟨b, off + q * 4 + 2, none⟩ = some (.string s') := (World.cell?_of_block (a := ⟨b, _, none⟩) (hblk b hSb hbk)).trans (hcell 2 _ rfl)
          have c3 : wr.cell? ⟨b, off + q * 4 + 3, none⟩ = some (.slice A' n' c') := (World.cell?_of_block (a := ⟨b, _, none⟩) (hblk b hSb hbk)).trans (hcell 3 _ rfl)
          have HDR := Lib.hid hDr
          clear hDr hD hDq hcell hCq hblk hSb
          go_wp2_with fail
          refine (IH.out q _ g gA gc base _ (isV_below HDR.out ((Below.refl _ _).alloc (Nat.le_refl _) _)) (HM.out q hlt) (HOG.out.alloc _) (by simp; omega) hgl).mono ?_
          rintro e w5 hP
          rcases hP with ⟨g5, x5, A5, c5, hr5, rfl, hO5, hg5, hat5⟩ | ⟨hr5, x, hx, rfl, hg5⟩
          · have hne5 : (Value.slice gA g.length gc).ownBlock ≠ some W3.heap.size := fun e => by
              rcases HGB.out _ e with h1 | h1
              · have := (HH.out.blk _ h1).2
                omega
              · omega
            have hBL5 := (HBR.out.grown (World.grownBy_alloc wr (.cells #[.int .i64 k', .int .i64 m', .string s', .slice A' n' c'] 90) none) (by simp)).grown hg5 hne5
            have HOP5 := Lib.hid ((HOP.out.alloc (.cells #[.int .i64 k', .int .i64 m', .string s', .slice A' n' c'] 90)).grown hg5 (fun k hk => HNE.out k hk))
            have HBL5 := Lib.hid hBL5
            have HO5 := Lib.hid hO5
            have HG5 := Lib.hid hg5
            have HA5 := Lib.hid hat5
            have HNX := Lib.hid (bldArgs_next HBA.out hr5)
            have hl5 := bld_len hr5 hgl
            have hz5 : wr.heap.size < w5.heap.size := by have := hg5.size; simp at this; omega
            have HPB := Lib.hid (fun k (hk : (Value.slice pA ps.length pc).ownBlock = some k) => (HOP.out.blk k hk).2)
            obtain ⟨b0, b1, b2, b3, b4, bf, bz⟩ := hBL5
            have HNP := Lib.hid (show (Value.slice pA ps.length pc).ownBlock ≠ some W3.heap.size from fun e => by have := (HOP.out.blk _ e).1; omega)
            clear hO5 hg5 hat5 hr5 c0 c1 c2 c3
            go_wp2_with (at_builtin; go_loud (refine wpList_append_us rfl _ _ 22 22 rfl Try.underlying22 Try.underlying22 (W3.heap.size + 1) (.slice pA ps.length pc) ps rfl (HOP5.out.alloc _) (.slice (some ⟨w5.heap.size, 0, none⟩) 1 1) [x5] rfl (Su.one _ _) (by simp; omega) (by simp; omega) ?_; intro v6 w6 hown6 hgrow6 hat6; obtain ⟨A6, d6, rfl, q1, q2, _⟩ := own_any hown6; have HO6 := Lib.hid hown6; have HG6 := Lib.hid hgrow6; have HA6 := Lib.hid hat6; have hBL6 := (HBL5.out.grown (World.grownBy_alloc w5 (.cells #[.int .u64 (x5 : Int)] 27) none) (by simp)).grown hgrow6 HNP.out; have HBL6 := Lib.hid hBL6; have e64 : w6.cell? ⟨W3.heap.size, 4, none⟩ = some (.slice pA ps.length pc) := hBL6.c4; have e6f := hBL6.fr; clear hown6 hgrow6 hat6 hBL6 b0 b1 b2 b3 b4 bf bz))
            have hg5' : wr.grownBy w5 (Value.slice gA g.length gc).ownBlock := grown_step (World.grownBy_alloc wr _ _) HG5.out (.inl rfl)
            have hg6' : w5.grownBy w6 (Value.slice pA ps.length pc).ownBlock := grown_step (World.grownBy_alloc w5 _ _) HG6.out (.inl rfl)
            have hA5P : ∀ k, (Value.slice A5 g5.length c5).ownBlock = some k → (Value.slice pA ps.length pc).ownBlock ≠ some k := fun k hk e => by
              have h2 := HPB.out k e
              rcases HA5.out k hk with h1 | h1
              · exact HNE.out k e h1
              · simp at h1; omega
            have hA5o : ∀ k, (Value.slice A5 g5.length c5).ownBlock = some k → (Value.slice hA h.length hc).ownBlock = some k ∨ W3.heap.size < k := fun k hk => by
              rcases HA5.out k hk with h1 | h1
              · exact HGB.out k h1
              · simp at h1
                have := HBR.out.sz
                omega
            have hA5n : ∀ k, (Value.slice A5 g5.length c5).ownBlock = some k → some W3.heap.size ≠ some k := fun k hk e => by
              injection e with e
              rcases hA5o k hk with h1 | h1
              · have := (HH.out.blk k h1).2
                omega
              · omega
            go_roundw
            case rel =>
              refine ⟨q + 1, g5, ps ++ [x5], A5, c5, A6, d6, rfl, by go_num, by omega, HNX.out, own_grown (OwnU.grown HO5.out hg6' hA5P) (grown_set (grown_self _ _) _) hA5n, hl5, hA5o, ?_, ?_, ?_, ?_⟩
              · exact own_set HO6.out (by omega)
              · intro k hk e
                rcases HA6.out with h1 | h1
                · exact hA5P k e (h1.symm.trans hk)
                · have h2 := h1.symm.trans hk
                  injection h2 with h2
                  have := (HO5.out.blk k e).2
                  simp at h2
                  omega
              · rw [List.length_append]
                exact HBL6.out.put _
              · exact grown_setN (grown_step (grown_step HGR.out hg5' HCO.out) hg6' (.inr fun k hk => by have := (HOP.out.blk k hk).1; omega)) (by omega) _
            case measure => simp [intOf]; omega
          · have HX := Lib.hid hx
            have HF := Lib.hid (bldArgs_fail HBA.out hr5 hlt)
            have HG5 := Lib.hid hg5
            have x0 : (x != 0) = true := by simpa using hx
            clear hx hg5 hr5 c0 c1 c2 c3
            go_wp2_with fail
            go_ret3
            exact .inr ⟨by simp [VT.bld, HB.out, HGO.out, HF.out, bldNode], x, HX.out, rfl, grown_step HGR.out (grown_step (World.grownBy_alloc wr _ _) HG5.out (.inl rfl)) HCO.out⟩
        · obtain rfl : q = n := by omega
          have HSP := Lib.hid (Su.of_own HOP.out)
          obtain ⟨b0, b1, b2, b3, b4, bf, bz⟩ := HBR.out
          have HBN := Lib.hid (show (VT.node k m s q arg).bld h = bldNode k m s (some (g, ps)) by simp [VT.bld, HB.out, HGO.out, HBA.out])
          by_cases hf : fitsB g ⟨K, m, s, ps⟩ = true
          · have HF := Lib.hid hf
            obtain ⟨f1, f2⟩ := fitsB_iff.1 hf
            have HFO := Lib.hid (show FitsOb g ⟨K, m, s, ps⟩ from ⟨f1, f2⟩)
            have HBD := Lib.hid (show (VT.node k m s q arg).bld h = some (g ++ wordsO ⟨K, m, s, ps⟩, g.length * 8 + 4) by rw [HBN.out]; simp only [bldNode]; rw [← HKK.out, if_pos hf])
            clear hf f1
            go_wp2_with fail
            refine (put_in g gA gc base ⟨K, m, s, ps⟩ 0 pA pc wr HOG.out (by omega) HSP.out HFO.out).mono ?_
            rintro e w6 ⟨A6, d6, rfl, hO6, hg6, hat6⟩
            have HO6 := Lib.hid hO6
            have HG6 := Lib.hid hg6
            have HA6 := Lib.hid hat6
            have hokw : okW 4 (g.length : Int) = true := by
              simp [okW, validB]
              omega
            have HWV := Lib.hid (show wordV 4 (g.length : Int) = ((g.length * 8 + 4 : Nat) : Int) by unfold wordV; omega)
            clear hO6 hg6 hat6 b0 b1 b2 b3 b4 bf bz
            go_wp2_with fail
            refine (word_ok _ _ _ hokw).mono ?_
            rintro e w' ⟨rfl, rfl⟩
            rw [HWV.out]
            go_wp2_with fail
            go_ret3
            refine .inl ⟨g ++ wordsO ⟨K, m, s, ps⟩, g.length * 8 + 4, A6, d6, HBD.out, by rw [List.length_append, show ((g.length * 8 + 4 : Nat) : Int) = (g.length : Int) * 8 + 4 by omega]; rfl, HO6.out, grown_step HGR.out HG6.out HCO.out, fun k hk => ?_⟩
            rcases HA6.out k hk with h1 | h1
            · rcases HGB.out k h1 with h2 | h2
              · exact .inl h2
              · exact .inr (by omega)
            · exact .inr (by omega)
          · have HF := Lib.hid hf
            have HFO := Lib.hid (show ¬ FitsOb g ⟨K, m, s, ps⟩ from fun h => hf (fitsB_iff.2 h))
            have HBD := Lib.hid (show (VT.node k m s q arg).bld h = none by rw [HBN.out]; simp only [bldNode]; rw [← HKK.out, if_neg hf])
            clear hf
            go_wp2_with fail
            refine (put_bad g gA gc ⟨K, m, s, ps⟩ 0 pA pc wr (by omega) HSP.out HFO.out).mono ?_
            rintro e w6 ⟨x, hx, rfl, hb6⟩
            have HX := Lib.hid hx
            have HB6 := Lib.hid hb6
            have x0 : (x != 0) = true := by simpa using hx
            clear hx hb6 b0 b1 b2 b3 b4 bf bz
            go_wp2_with fail
            go_ret3
            exact .inr ⟨HBD.out, x, HX.out, rfl, grown_step HGR.out (grown_below (g := (Value.slice gA g.length gc).ownBlock) HB6.out) HCO.out⟩
theorem build_any : ∀ t : VT, BldOk t := by
  intro t
  induction t with
  | none => intro cs h hA hc base w hV; exact hV.elim
  | node k m s n arg ih => exact build_node k m s n arg ih
theorem build_some {t : VT} {cs : List Value} {h : List Nat} {hA : Option Addr} {hc base : Nat} {w : World} {g : List Nat} {x : Nat} (hr : t.bld h = some (g, x)) (hV : t.isV w (fun b => (Value.slice hA h.length hc).ownBlock ≠ some b) cs) (hm : t.many ≤ 100000) (hH : OwnU w base (.slice hA h.length hc) h) (hb : base ≤ w.heap.size) (hl : h.length ≤ 4194304) :
    Calls Try.prog 75 #[.slice hA h.length hc, .agg cs.toArray] w fun e w' => ∃ A c, e = .returned (.tuple #[.slice A g.length c, .int .u64 (x : Nat), .int .i64 0]) ∧ OwnU w' base (.slice A g.length c) g ∧ w.grownBy w' (Value.slice hA h.length hc).ownBlock := by
  refine (build_any t cs h hA hc base w hV hm hH hb hl).mono ?_
  rintro e w2 (⟨g2, x2, A2, d2, hr2, he, hO2, hg2, _⟩ | ⟨hr2, _⟩)
  · rw [hr] at hr2
    injection hr2 with hr2
    injection hr2 with e1 e2
    subst e1 e2
    exact ⟨A2, d2, he, hO2, hg2⟩
  · rw [hr] at hr2; cases hr2
theorem build_none {t : VT} {cs : List Value} {h : List Nat} {hA : Option Addr} {hc base : Nat} {w : World} (hr : t.bld h = none) (hV : t.isV w (fun b => (Value.slice hA h.length hc).ownBlock ≠ some b) cs) (hm : t.many ≤ 100000) (hH : OwnU w base (.slice hA h.length hc) h) (hb : base ≤ w.heap.size) (hl : h.length ≤ 4194304) :
    Calls Try.prog 75 #[.slice hA h.length hc, .agg cs.toArray] w fun e w' => ∃ x : Int, x ≠ 0 ∧ e = .returned (.tuple #[.slice none 0 0, .int .u64 0, .int .i64 x]) ∧ w.grownBy w' (Value.slice hA h.length hc).ownBlock := by
  refine (build_any t cs h hA hc base w hV hm hH hb hl).mono ?_
  rintro e w2 (⟨g2, x2, A2, d2, hr2, he, hO2, hg2, _⟩ | ⟨hr2, h2⟩)
  · rw [hr] at hr2; cases hr2
  · exact h2
/-- what Build answers -/
def BuildPost (r : Option (List Nat × Nat)) (w : World) (e : Ending) (w' : World) : Prop :=
  (∃ g x A c, r = some (g, x) ∧ e = .returned (.tuple #[.slice A g.length c, .int .u64 (x : Nat), .int .i64 0]) ∧ OwnU w' w.heap.size (.slice A g.length c) g ∧ Below w.heap.size w w') ∨
  (r = none ∧ ∃ x : Int, x ≠ 0 ∧ e = .returned (.tuple #[.slice none 0 0, .int .u64 0, .int .i64 x]) ∧ Below w.heap.size w w')
set_option maxHeartbeats 4000000 in
set_option maxRecDepth 100000 in
theorem Build_any (t : VT) (k m : Int) (s : ByteArray) (A : Option Addr) (n c : Nat) (S : Nat → Prop) (h : List Nat) (hA : Option Addr) (hc : Nat) (w : World) (hV : t.isV w S [.int .i64 k, .int .i64 m, .string s, .slice A n c]) (hm : t.many ≤ 100000) (hH : Su w (.slice hA h.length hc) h) (hlen : h.length ≤ 4194304) :
    Calls Try.prog 51 #[.slice hA h.length hc, .agg #[.int .i64 k, .int .i64 m, .string s, .slice A n c]] w (BuildPost (t.bld h) w) := by
  have HH := Lib.hid hH
  have HV := Lib.hid hV
  obtain ⟨W0, hW0⟩ : ∃ W0, W0 = w.alloc (.cells #[.int .i64 k, .int .i64 m, .string s, .slice A n c] 90) := ⟨_, rfl⟩
  have HB0 := Lib.hid (show Below w.heap.size w W0.drew by rw [hW0]; exact ((Below.refl _ _).alloc (Nat.le_refl _) _).drew)
  have HZ0 := Lib.hid (show W0.drew.heap.size = w.heap.size + 1 by rw [hW0]; show (w.alloc _).heap.size = _; simp)
  obtain ⟨q0, q1, q2, q3⟩ := (show W0.drew.cell? ⟨w.heap.size, 0, none⟩ = some (.int .i64 k) ∧ W0.drew.cell? ⟨w.heap.size, 1, none⟩ = some (.int .i64 m) ∧ W0.drew.cell? ⟨w.heap.size, 2, none⟩ = some (.string s) ∧ W0.drew.cell? ⟨w.heap.size, 3, none⟩ = some (.slice A n c) by rw [hW0]; simp)
  clear hH hV
  cases hr : t.bld h with
  | none =>
    have HR := Lib.hid hr
    clear hr
    go_enter Try.func51, Try.ntmps51
    go_wp2_with fail
    rw [← hW0]
    clear hW0
    go_region_held3 (fun W => W.cell? ⟨w.heap.size, 0, none⟩ = some (.int .i64 k) ∧ W.cell? ⟨w.heap.size, 1, none⟩ = some (.int .i64 m) ∧ W.cell? ⟨w.heap.size, 2, none⟩ = some (.string s) ∧ W.cell? ⟨w.heap.size, 3, none⟩ = some (.slice A n c))
      (first | exact ⟨q0, q1, q2, q3⟩ | exact ⟨r0, r1, r2, r3⟩ | exact ⟨s0, s1, s2, s3⟩ | go_keep)
      (first
        | (go_at_call 25; refine (cloneH_any hA hc h W0.drew (HH.out.below HB0.out) (by omega)).mono ?_; rintro e w1 ⟨A1, d1, rfl, hO1, hb1⟩; obtain ⟨r0, r1, r2, r3⟩ := (show w1.cell? ⟨w.heap.size, 0, none⟩ = some (.int .i64 k) ∧ w1.cell? ⟨w.heap.size, 1, none⟩ = some (.int .i64 m) ∧ w1.cell? ⟨w.heap.size, 2, none⟩ = some (.string s) ∧ w1.cell? ⟨w.heap.size, 3, none⟩ = some (.slice A n c) from ⟨(hb1.cell (p := ⟨_, _, none⟩) (by rw [HZ0.out]; exact Nat.lt_succ_self _)).trans q0, (hb1.cell (p := ⟨_, _, none⟩) (by rw [HZ0.out]; exact Nat.lt_succ_self _)).trans q1, (hb1.cell (p := ⟨_, _, none⟩) (by rw [HZ0.out]; exact Nat.lt_succ_self _)).trans q2, (hb1.cell (p := ⟨_, _, none⟩) (by rw [HZ0.out]; exact Nat.lt_succ_self _)).trans q3⟩); have HO1 := Lib.hid hO1; have HB1 := Lib.hid (HB0.out.trans (hb1.mono HB0.out.size)); have hs1 := hb1.size; clear hO1 hb1)
        | (go_at_call 75; refine (build_none HR.out (cs := [.int .i64 k, .int .i64 m, .string s, .slice A n c]) (hA := A1) (hc := d1) (base := W0.drew.heap.size) (w := w1) (isV_frame HB1.out.size (fun b hs hl => ⟨fun e => by have := (HO1.out.blk b e).1; have := HZ0.out; omega, HB1.out.block b hl⟩) HV.out) hm HO1.out hs1 hlen).mono ?_; rintro e w2 ⟨x, hx, rfl, hg2⟩; have HX := Lib.hid hx; clear hx; have hgb : ∀ o, w2.cell? ⟨w.heap.size, o, none⟩ = w1.cell? ⟨w.heap.size, o, none⟩ := (fun o => grown_cell hg2 (by have := HZ0.out; omega) (fun e => by have := (HO1.out.blk _ e.symm).1; have := HZ0.out; omega)); obtain ⟨s0, s1, s2, s3⟩ := (show w2.cell? ⟨w.heap.size, 0, none⟩ = some (.int .i64 k) ∧ w2.cell? ⟨w.heap.size, 1, none⟩ = some (.int .i64 m) ∧ w2.cell? ⟨w.heap.size, 2, none⟩ = some (.string s) ∧ w2.cell? ⟨w.heap.size, 3, none⟩ = some (.slice A n c) from ⟨(hgb _).trans r0, (hgb _).trans r1, (hgb _).trans r2, (hgb _).trans r3⟩); have HB2 := Lib.hid (below_grown HB1.out HB1.out.size hg2 (fun g hg => by have := (HO1.out.blk g hg).1; have := HZ0.out; omega)); clear hg2 hgb))
    all_goals
      go_wp2_with fail
      go_ret3
      exact .inr ⟨rfl, x, HX.out, rfl, HB2.out⟩
  | some p =>
    obtain ⟨g, x⟩ := p
    have HR := Lib.hid hr
    clear hr
    go_enter Try.func51, Try.ntmps51
    go_wp2_with fail
    rw [← hW0]
    clear hW0
    go_region_held3 (fun W => W.cell? ⟨w.heap.size, 0, none⟩ = some (.int .i64 k) ∧ W.cell? ⟨w.heap.size, 1, none⟩ = some (.int .i64 m) ∧ W.cell? ⟨w.heap.size, 2, none⟩ = some (.string s) ∧ W.cell? ⟨w.heap.size, 3, none⟩ = some (.slice A n c))
      (first | exact ⟨q0, q1, q2, q3⟩ | exact ⟨r0, r1, r2, r3⟩ | exact ⟨s0, s1, s2, s3⟩ | go_keep)
      (first
        | (go_at_call 25; refine (cloneH_any hA hc h W0.drew (HH.out.below HB0.out) (by omega)).mono ?_; rintro e w1 ⟨A1, d1, rfl, hO1, hb1⟩; obtain ⟨r0, r1, r2, r3⟩ := (show w1.cell? ⟨w.heap.size, 0, none⟩ = some (.int .i64 k) ∧ w1.cell? ⟨w.heap.size, 1, none⟩ = some (.int .i64 m) ∧ w1.cell? ⟨w.heap.size, 2, none⟩ = some (.string s) ∧ w1.cell? ⟨w.heap.size, 3, none⟩ = some (.slice A n c) from ⟨(hb1.cell (p := ⟨_, _, none⟩) (by rw [HZ0.out]; exact Nat.lt_succ_self _)).trans q0, (hb1.cell (p := ⟨_, _, none⟩) (by rw [HZ0.out]; exact Nat.lt_succ_self _)).trans q1, (hb1.cell (p := ⟨_, _, none⟩) (by rw [HZ0.out]; exact Nat.lt_succ_self _)).trans q2, (hb1.cell (p := ⟨_, _, none⟩) (by rw [HZ0.out]; exact Nat.lt_succ_self _)).trans q3⟩); have HO1 := Lib.hid hO1; have HB1 := Lib.hid (HB0.out.trans (hb1.mono HB0.out.size)); have hs1 := hb1.size; clear hO1 hb1)
        | (go_at_call 75; refine (build_some HR.out (cs := [.int .i64 k, .int .i64 m, .string s, .slice A n c]) (hA := A1) (hc := d1) (base := W0.drew.heap.size) (w := w1) (isV_frame HB1.out.size (fun b hs hl => ⟨fun e => by have := (HO1.out.blk b e).1; have := HZ0.out; omega, HB1.out.block b hl⟩) HV.out) hm HO1.out hs1 hlen).mono ?_; rintro e w2 ⟨A2, d2, rfl, hO2, hg2⟩; have HO2 := Lib.hid hO2; clear hO2; have hgb : ∀ o, w2.cell? ⟨w.heap.size, o, none⟩ = w1.cell? ⟨w.heap.size, o, none⟩ := (fun o => grown_cell hg2 (by have := HZ0.out; omega) (fun e => by have := (HO1.out.blk _ e.symm).1; have := HZ0.out; omega)); obtain ⟨s0, s1, s2, s3⟩ := (show w2.cell? ⟨w.heap.size, 0, none⟩ = some (.int .i64 k) ∧ w2.cell? ⟨w.heap.size, 1, none⟩ = some (.int .i64 m) ∧ w2.cell? ⟨w.heap.size, 2, none⟩ = some (.string s) ∧ w2.cell? ⟨w.heap.size, 3, none⟩ = some (.slice A n c) from ⟨(hgb _).trans r0, (hgb _).trans r1, (hgb _).trans r2, (hgb _).trans r3⟩); have HB2 := Lib.hid (below_grown HB1.out HB1.out.size hg2 (fun g hg => by have := (HO1.out.blk g hg).1; have := HZ0.out; omega)); clear hg2 hgb))
    all_goals
      go_wp2_with fail
      go_ret3
      exact .inl ⟨g, x, A2, d2, rfl, rfl, OwnU.mono HO2.out (by have := HZ0.out; omega), HB2.out⟩
end Go.Proofs.Ytkdbnkkdohkhjaa
