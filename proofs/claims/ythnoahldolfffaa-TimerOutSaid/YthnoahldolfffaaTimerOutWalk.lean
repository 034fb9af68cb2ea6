/- The walk of the law TimerOut. -/
import Derived.Test.YthnoahldolfffaaTimerOpen
import Derived.Test.YthnoahldolfffaaTimOut
import Derived.Deep.DeepCutAuto
namespace Go.Proofs.Ythnoahldolfffaa
open Go.RowKit Go.ChangeShapes Go.WideShapes Go.Deep
set_option linter.unusedVariables false
/-- a box of timers -/
structure KB (wx : World) (b : Nat) (now : Int) (v : Value) : Prop where
  c0 : wx.cell? ⟨b, 0, none⟩ = some (.int .i64 now)
  c1 : wx.cell? ⟨b, 1, none⟩ = some v
  sz : b < wx.heap.size
theorem KB.below {wx wy : World} {b : Nat} {now : Int} {v : Value} (h : KB wx b now v) (hb : Below wx.heap.size wx wy) : KB wy b now v :=
  ⟨(hb.cell (p := ⟨b, 0, none⟩) h.sz).trans h.c0, (hb.cell (p := ⟨b, 1, none⟩) h.sz).trans h.c1, by have := hb.size; have := h.sz; omega⟩
theorem KB.new (w : World) (now : Int) (A : Option Addr) (n c : Nat) : KB (w.alloc (.cells #[.int .i64 now, .slice A n c] 24)) w.heap.size now (.slice A n c) := ⟨by simp, by simp, by simp⟩
theorem out_again {now id : Int} {l : List Du} {w w' : World} {e : Ending} (h : OutPost now id l w e w') (hok : OkTl now l) (hno : ∀ x ∈ l, x.id ≠ id) :
    e = .returned (.tuple #[.agg #[.int .i64 0, .slice none 0 0], .int .i64 0, .int .i64 4]) ∧ Below w.heap.size w w' := by
  rcases h with ⟨i, x, A, c, _, hi, hx, _⟩ | ⟨y, _, rfl, hy, hb⟩
  · exact absurd hx (hno x (List.mem_of_getElem? hi))
  · rw [hy hok hno]
    exact ⟨rfl, hb⟩
theorem set_b {now : Int} {l : List Du} {i : Nat} {x : Du} {w w' : World} {e : Ending} (h : SetPost now x.id (x.at_ - now) (l.eraseIdx i) w e w') (hok : OkLs now l) (hi : l[i]? = some x) :
    ∃ (nb g : Int) (A : Option Addr) (n c : Nat), e = .returned (.tuple #[.agg #[.int .i64 nb, .slice A n c], .int .i64 g]) ∧ (g = 0 → nb = now ∧ n = l.length ∧ Sd w' (.slice A l.length c) l) ∧ (g ≠ 0 → 1099511627776 < x.at_ - now) ∧ Below w.heap.size w w' := by
  rcases h with ⟨_, A, c, rfl, hO, hb⟩ | ⟨hno, y, hy, rfl, hb⟩
  · rw [set_back hok hi] at hO ⊢
    exact ⟨now, 0, A, l.length, c, rfl, fun _ => ⟨rfl, rfl, Sd.of_own hO⟩, fun h => absurd rfl h, hb⟩
  · exact ⟨0, y, none, 0, 0, rfl, fun h => absurd h hy, fun _ => set_back_ok hok hi hno, hb⟩
theorem set_c {now id ticks : Int} {l : List Du} {w w' : World} {e : Ending} (h : SetPost now id ticks l w e w') :
    ∃ (nc h : Int) (A : Option Addr) (c : Nat) (m : List Du), e = .returned (.tuple #[.agg #[.int .i64 nc, .slice A m.length c], .int .i64 h]) ∧ (h = 0 → cntD id m = 1) ∧ Sd w' (.slice A m.length c) m ∧ m.length ≤ 1000 ∧ Below w.heap.size w w' := by
  rcases h with ⟨hs, A, c, rfl, hO, hb⟩ | ⟨hno, y, hy, rfl, hb⟩
  · exact ⟨now, 0, A, c, _, rfl, fun _ => set_count, Sd.of_own hO, by have := (set_ok hs).len; omega, hb⟩
  · exact ⟨0, y, none, 0, [], rfl, fun h => absurd h hy, Sd.nil _, by simp, hb⟩
set_option maxHeartbeats 8000000 in
set_option maxRecDepth 100000 in
theorem timerOut_go (now : Int) (A : Option Addr) (c : Nat) (l : List Du) (id ticks : Int) (w : World) (hS : Sd w (.slice A l.length c) l) :
    Calls Try.prog 4 #[.agg #[.int .i64 now, .slice A l.length c], .int .i64 id, .int .i64 ticks] w fun e w' => e = .returned (.bool true) ∧ Below w.heap.size w w' := by
  have HS := Lib.hid hS
  clear hS
  obtain ⟨W0, hW0⟩ : ∃ W0, W0 = w.alloc (.cells #[.int .i64 now, .slice A l.length c] 24) := ⟨_, rfl⟩
  have HB0 := Lib.hid (show Below w.heap.size w W0 by rw [hW0]; exact (Below.refl _ _).alloc (Nat.le_refl _) _)
  have HT0 := Lib.hid (show KB W0 w.heap.size now (.slice A l.length c) by rw [hW0]; exact KB.new _ _ _ _ _)
  go_enter Try.func4, Try.ntmps4
  obtain ⟨t0, t1, tz⟩ := HT0.out
  go_wp2_with fail
  rw [← hW0]
  clear hW0
  refine (out_any now A c l id _ (HS.out.below HB0.out)).mono ?_
  rintro e w1 (⟨i, x, A1, c1, hok, hi, hx, rfl, hO, hb1⟩ | ⟨y, hy, rfl, -, hb1⟩)
  rotate_left
  · have HB1 := Lib.hid (HB0.out.trans (hb1.mono HB0.out.size))
    have y0 : (y != 0) = true := by simpa using hy
    clear hy hb1 t0 t1 tz
    go_wp2_with fail
    refine (timers_any _).mono ?_
    rintro e w2 ⟨rfl, hb2⟩
    have HB2 := Lib.hid ((HB1.out.alloc HB1.out.size (.cells #[.int .i64 0, .slice none 0 0] 24)).trans (hb2.mono (by have := HB1.out.size; simp; omega)))
    clear hb2
    go_wp2_with fail
    refine (timers_any _).mono ?_
    rintro e w3 ⟨rfl, hb3⟩
    have HB3 := Lib.hid (HB2.out.trans (hb3.mono HB2.out.size))
    clear hb3
    go_wp2_with fail
    go_ret
    exact ⟨rfl, HB3.out⟩
  subst hx
  have HOK := Lib.hid hok.ls
  have HI := Lib.hid hi
  have HB1 := Lib.hid (HB0.out.trans (hb1.mono HB0.out.size))
  have HT1 := Lib.hid (HT0.out.below hb1)
  have HO1 := Lib.hid (Sd.of_own hO)
  obtain ⟨e1, he1⟩ : ∃ e1, e1 = l.eraseIdx i := ⟨_, rfl⟩
  have HE1 := Lib.hid he1
  obtain ⟨W1, hW1⟩ : ∃ W1, W1 = w1.alloc (.cells #[.int .i64 now, .slice A1 e1.length c1] 24) := ⟨_, rfl⟩
  rw [← he1] at HO1 ⊢
  have HBW := Lib.hid (show Below w1.heap.size w1 W1 by rw [hW1]; exact (Below.refl _ _).alloc (Nat.le_refl _) _)
  have HU1 := Lib.hid (show KB W1 w1.heap.size now (.slice A1 e1.length c1) by rw [hW1]; exact KB.new _ _ _ _ _)
  obtain ⟨left, hleft⟩ : ∃ left, left = x.at_ - now := ⟨_, rfl⟩
  have HLF := Lib.hid hleft
  rw [← hleft]
  clear hok hi hb1 hO he1 t0 t1 tz hleft
  go_wp2_with fail
  rw [← hW1]
  clear hW1
  refine (timers_any _).mono ?_
  rintro e w2 ⟨rfl, hb2⟩
  have hb12 := HBW.out.trans (hb2.mono HBW.out.size)
  have HB2 := Lib.hid (HB1.out.trans (hb12.mono HB1.out.size))
  have HT2 := Lib.hid (HT1.out.below hb12)
  have HU2 := Lib.hid (HU1.out.below hb2)
  have HO2 := Lib.hid (HO1.out.below hb12)
  clear hb2 hb12
  obtain ⟨t0, t1, tz⟩ := HT2.out
  obtain ⟨u0, u1, uz⟩ := HU2.out
  go_wp2_with fail
  clear t0 t1 tz u0 u1 uz
  refine (out_any now A1 c1 e1 x.id _ HO2.out).mono ?_
  rintro e w3 hpost
  obtain ⟨rfl, hb3⟩ := out_again hpost (by rw [HE1.out]; exact (erase_ok i HOK.out).tl) (by rw [HE1.out]; exact erase_none HOK.out.ids HI.out)
  have hb3' := hb3.alloc hb3.size (.cells #[.int .i64 0, .slice none 0 0] 24)
  obtain ⟨W3, hW3⟩ : ∃ W3, W3 = w3.alloc (.cells #[.int .i64 0, .slice none 0 0] 24) := ⟨_, rfl⟩
  rw [← hW3] at hb3'
  have HB3 := Lib.hid (HB2.out.trans (hb3'.mono HB2.out.size))
  have HT3 := Lib.hid (HT2.out.below hb3')
  have HO3 := Lib.hid (HO2.out.below hb3')
  obtain ⟨t0, t1, tz⟩ := HT2.out.below hb3
  obtain ⟨u0, u1, uz⟩ := HU2.out.below hb3
  clear hb3 hb3' hpost
  go_wp2_with fail
  rw [← hW3]
  clear hW3
  refine (set_any now A1 c1 e1 x.id left _ HO3.out).mono ?_
  rintro e w4 hpost
  rw [HLF.out, HE1.out] at hpost
  obtain ⟨nb, g, A4, n4, c4, rfl, hg0, hg1, hb4⟩ := set_b hpost HOK.out HI.out
  have HG1 := Lib.hid hg1
  have HG0 := Lib.hid hg0
  obtain ⟨W4, hW4⟩ : ∃ W4, W4 = w4.alloc (.cells #[.int .i64 nb, .slice A4 n4 c4] 24) := ⟨_, rfl⟩
  have HV4 := Lib.hid (show KB W4 w4.heap.size nb (.slice A4 n4 c4) by rw [hW4]; exact KB.new _ _ _ _ _)
  have HBN := Lib.hid (show Below w4.heap.size w4 W4 by rw [hW4]; exact (Below.refl _ _).alloc (Nat.le_refl _) _)
  have hb4' := hb4.trans (HBN.out.mono hb4.size)
  have HB4 := Lib.hid (HB3.out.trans (hb4'.mono HB3.out.size))
  have HT4 := Lib.hid (HT3.out.below hb4')
  clear t0 t1 tz u0 u1 uz
  obtain ⟨t0, t1, tz⟩ := HT3.out.below hb4
  clear hpost hg0 hg1 hb4 hb4'
  go_wp2_with fail
  rw [← hW4]
  clear hW4
  refine (set_any now A c l x.id ticks _ (HS.out.below HB4.out)).mono ?_
  rintro e w5 hpost
  obtain ⟨nc, h, A5, c5, m, rfl, hh, hSm, hml, hb5⟩ := set_c hpost
  have HH := Lib.hid hh
  obtain ⟨W5, hW5⟩ : ∃ W5, W5 = w5.alloc (.cells #[.int .i64 nc, .slice A5 m.length c5] 24) := ⟨_, rfl⟩
  have HX5 := Lib.hid (show KB W5 w5.heap.size nc (.slice A5 m.length c5) by rw [hW5]; exact KB.new _ _ _ _ _)
  have hbn : Below w5.heap.size w5 W5 := by rw [hW5]; exact (Below.refl _ _).alloc (Nat.le_refl _) _
  have HSM := Lib.hid (hSm.below hbn)
  have hb5' := hb5.trans (hbn.mono hb5.size)
  have HB5 := Lib.hid (HB4.out.trans (hb5'.mono HB4.out.size))
  have HT5 := Lib.hid (HT4.out.below hb5')
  have HV5 := Lib.hid (HV4.out.below hb5')
  have HBL := Lib.hid (HBN.out.trans (hb5'.mono HBN.out.size))
  clear hpost hh hSm hbn hb5 hb5' t0 t1 tz
  go_wp2_with fail
  rw [← hW5]
  clear hW5
  go_loopw [17, 19, 62] (fun nv _ i wr => ∃ k : Nat, k ≤ m.length ∧ i = .int .i64 (k : Int) ∧ nv = .int .i64 ((cntD x.id (m.take k) : Nat) : Int) ∧ Below W5.heap.size W5 wr) (fun _ _ i _ => m.length - (intOf i).toNat)
  case atStart => exact ⟨0, Nat.zero_le _, rfl, rfl, Below.refl _ _⟩
  case round =>
    obtain ⟨k, hk, rfl, rfl, hB⟩ := hrel
    have HB := Lib.hid hB
    clear hB
    by_cases hlt : k < m.length
    · obtain ⟨bk, off, rfl, hbk, hcell⟩ := (Sd.rd HSM.out) (by omega)
      obtain ⟨y, hy⟩ : ∃ y, m[k]? = some y := ⟨_, List.getElem?_eq_getElem hlt⟩
      have hyn : nthD m k = y := by simp [nthD, hy]
      have c0 : wr.cell? ⟨bk, off + k * 2, none⟩ = some (.int .i64 y.at_) := (HB.out.cell (p := ⟨bk, _, none⟩) hbk).trans (hcell k hlt 0 _ (by unfold duC; rw [hyn]; rfl))
      have c1 : wr.cell? ⟨bk, off + k * 2 + 1, none⟩ = some (.int .i64 y.id) := (HB.out.cell (p := ⟨bk, _, none⟩) hbk).trans (hcell k hlt 1 _ (by unfold duC; rw [hyn]; rfl))
      have HCN := Lib.hid (cntD_succ (id := x.id) hy)
      have hcl := cntD_le (id := x.id) (l := m) (k := k)
      generalize cntD x.id (m.take k) = q at *
      clear hcell hyn hy
      obtain ⟨ya, yi⟩ := y
      dsimp only at c0 c1
      obtain ⟨xi, hxi⟩ : ∃ xi, xi = x.id := ⟨_, rfl⟩
      have HXI := Lib.hid hxi
      rw [← hxi]
      clear hxi
      by_cases he : yi = xi
      · have e1 : (yi == xi) = true := by simpa using he
        have HE := Lib.hid he
        clear he
        go_wp2_with fail
        go_roundw
        case rel => exact ⟨k + 1, by omega, by go_num, by rw [HXI.out, HCN.out]; dsimp only; rw [if_pos (by rw [HE.out, HXI.out])]; go_num, HB.out.alloc HB.out.size _⟩
        case measure => simp [intOf]; omega
      · have e1 : (yi == xi) = false := by simpa using he
        have HE := Lib.hid he
        clear he
        go_wp2_with fail
        go_roundw
        case rel => exact ⟨k + 1, by omega, by go_num, by rw [HXI.out, HCN.out]; dsimp only; rw [if_neg (by rw [← HXI.out]; exact HE.out)]; go_num, HB.out.alloc HB.out.size _⟩
        case measure => simp [intOf]; omega
    · obtain rfl : k = m.length := by omega
      have HT6 := Lib.hid (HT5.out.below HB.out)
      have HV6 := Lib.hid (HV5.out.below HB.out)
      have HB6 := Lib.hid (HB5.out.trans (HB.out.mono HB5.out.size))
      have HH' := Lib.hid (show h = 0 → cntD x.id (m.take m.length) = 1 by rw [List.take_length]; exact HH.out)
      generalize cntD x.id (m.take m.length) = q at *
      obtain ⟨t0, t1, tz⟩ := HT6.out
      obtain ⟨u0, u1, uz⟩ := HV6.out
      by_cases hh : h = 0
      · subst hh
        have q1 : q = 1 := HH'.out rfl
        subst q1
        by_cases hg : g = 0
        · subst hg
          obtain ⟨rfl, rfl, hsb⟩ := HG0.out rfl
          have HSB := Lib.hid (hsb.below (HBL.out.trans (HB.out.mono HBL.out.size)))
          clear hsb
          go_wp2_with fail
          refine (sameT_same nb A4 A c4 c l _ HSB.out (HS.out.below HB6.out)).mono ?_
          rintro e w7 ⟨rfl, hb7⟩
          have HB7 := Lib.hid (HB6.out.trans (hb7.mono HB6.out.size))
          clear hb7
          go_wp2_with fail
          go_ret
          exact ⟨rfl, HB7.out⟩
        · have g1 : (g != 0) = true := by simpa using hg
          have g2 : decide (1099511627776 < left) = true := by have := HG1.out hg; have := HLF.out; simp; omega
          clear hg
          go_wp2_with fail
          go_ret
          exact ⟨rfl, HB6.out⟩
      · have h1 : (h != 0) = true := by simpa using hh
        clear hh
        by_cases hg : g = 0
        · subst hg
          obtain ⟨rfl, rfl, hsb⟩ := HG0.out rfl
          have HSB := Lib.hid (hsb.below (HBL.out.trans (HB.out.mono HBL.out.size)))
          clear hsb
          go_wp2_with fail
          refine (sameT_same nb A4 A c4 c l _ HSB.out (HS.out.below HB6.out)).mono ?_
          rintro e w7 ⟨rfl, hb7⟩
          have HB7 := Lib.hid (HB6.out.trans (hb7.mono HB6.out.size))
          clear hb7
          go_wp2_with fail
          go_ret
          exact ⟨rfl, HB7.out⟩
        · have g1 : (g != 0) = true := by simpa using hg
          have g2 : decide (1099511627776 < left) = true := by have := HG1.out hg; have := HLF.out; simp; omega
          clear hg
          go_wp2_with fail
          go_ret
          exact ⟨rfl, HB6.out⟩
set_option maxRecDepth 100000 in
theorem timerOut_walk {H : Type} {enc : TypeId × Value → H} (W : World) (base : Nat) (v0 v1 v2 : Value) {d0 d1 d2 : DataW H} {p0 p1 p2 : List MemPlace}
    (k0 : Value.okWide Try.prog W .any base 24 v0) (k1 : Value.okWide Try.prog W .any base 3 v1) (k2 : Value.okWide Try.prog W .any base 3 v2)
    (h0 : DataW.Trod enc Try.prog W 0 (fun _ => true) true 24 v0 d0 p0) (h1 : DataW.Trod enc Try.prog W 0 (fun _ => true) true 3 v1 d1 p1) (h2 : DataW.Trod enc Try.prog W 0 (fun _ => true) true 3 v2 d2 p2) :
    Calls Try.prog 4 #[v0, v1, v2] W fun e W' => e = .returned (.bool true) ∧ Below W.heap.size W W' := by
  obtain ⟨now, A, c, l, rfl, hS⟩ := open_timers k0 h0
  obtain ⟨a1, rfl, _, _, _⟩ := open_int Try.underlying3 k1 h1
  obtain ⟨a2, rfl, _, _, _⟩ := open_int Try.underlying3 k2 h2
  exact timerOut_go now A c l a1 a2 W hS
end Go.Proofs.Ythnoahldolfffaa
