/- PickAsks: the walk. -/
import Derived.Test.YtjalgnpbdcefdaaPickUse
import Derived.Test.YtjalgnpbdcefdaaPickInts
import Derived.Deep.DeepCutAuto
namespace Go.Proofs.Ytjalgnpbdcefdaa
open Go.RowKit Go.ChangeShapes Go.WideShapes
set_option linter.unusedVariables false
def PutAll (n : Nat) (at_ : Int) (arg : Nat → LT) (x : LT) (w : World) (e : Ending) (w' : World) : Prop :=
  (PutErr (· ≠ 0) w e w') ∨ (fitsB x.kind = true ∧ n < 60 ∧ PutPost n at_ arg x w e w')
theorem put_any (n c : Nat) (A : Option Addr) (at_ : Int) (arg : Nat → LT) (S : Nat → Prop) (x : LT) (cs : List Value) (Sx : Nat → Prop) (w : World) (hnc : n ≤ c) (hcm : c ≤ 9223372036854775807) (hR : RdL w S A n arg) (hx : x.isL w Sx cs) (ok : OkBox n at_ arg) (hma : ∀ i, i < n → (arg i).val.many ≤ 4194304) (hmx : x.val.many ≤ 4194304) :
    Calls Try.prog 25 #[.agg #[.slice A n c, .int .i64 at_], .agg cs.toArray] w (PutAll n at_ arg x w) := by
  by_cases hf : fitsB x.kind = true
  · by_cases h6 : n = 60
    · refine (put_full n c A at_ arg S x cs Sx w hnc hcm hR hx ok hf h6).mono ?_
      rintro e w' ⟨y, he, hy, hb⟩
      exact .inl ⟨y, he, by omega, hb⟩
    · have h7 : n < 60 := by have := ok.1; omega
      exact (put_ok n c A at_ arg S x cs Sx w hnc hcm hR hx ok hf h7 hma hmx).mono fun e w' h => .inr ⟨hf, h7, h⟩
  · refine (put_form n c A at_ arg S x cs Sx w hnc hcm hR hx ok (by simpa using hf)).mono ?_
    rintro e w' ⟨y, he, hy, hb⟩
    exact .inl ⟨y, he, by omega, hb⟩
/-- the boxes of the law: the box, the numbers, the letter -/
structure KL (wx : World) (b : Nat) (A : Option Addr) (n c : Nat) (at_ : Int) (A2 : Option Addr) (n2 c2 : Nat) (v0 v1 v2 v3 v4 v5 v6 v7 v8 : Value) : Prop where
  p0 : wx.cell? ⟨b, 0, none⟩ = some (.slice A n c)
  p1 : wx.cell? ⟨b, 1, none⟩ = some (.int .i64 at_)
  t0 : wx.cell? ⟨b + 1, 0, none⟩ = some (.slice A2 n2 c2)
  y0 : wx.cell? ⟨b + 2, 0, none⟩ = some v0
  y1 : wx.cell? ⟨b + 2, 1, none⟩ = some v1
  y2 : wx.cell? ⟨b + 2, 2, none⟩ = some v2
  y3 : wx.cell? ⟨b + 2, 3, none⟩ = some v3
  y4 : wx.cell? ⟨b + 2, 4, none⟩ = some v4
  y5 : wx.cell? ⟨b + 2, 5, none⟩ = some v5
  y6 : wx.cell? ⟨b + 2, 6, none⟩ = some v6
  y7 : wx.cell? ⟨b + 2, 7, none⟩ = some v7
  y8 : wx.cell? ⟨b + 2, 8, none⟩ = some v8
  sz : b + 2 < wx.heap.size
theorem KL.grown {wx wy : World} {b : Nat} {A : Option Addr} {n c : Nat} {at_ : Int} {A2 : Option Addr} {n2 c2 : Nat} {v0 v1 v2 v3 v4 v5 v6 v7 v8 : Value} {row : Option Nat} (h : KL wx b A n c at_ A2 n2 c2 v0 v1 v2 v3 v4 v5 v6 v7 v8) (hg : wx.grownBy wy row) (hr : ∀ k, row = some k → b + 3 ≤ k) : KL wy b A n c at_ A2 n2 c2 v0 v1 v2 v3 v4 v5 v6 v7 v8 := by
  have hz := h.sz
  have k0 : ∀ j o, j < 3 → wy.cell? ⟨b + j, o, none⟩ = wx.cell? ⟨b + j, o, none⟩ := fun j o hj => grown_cell hg (by omega) (fun e => by have := hr _ e.symm; omega)
  exact ⟨(k0 0 0 (by omega)).trans h.p0, (k0 0 1 (by omega)).trans h.p1, (k0 1 0 (by omega)).trans h.t0, (k0 2 0 (by omega)).trans h.y0, (k0 2 1 (by omega)).trans h.y1, (k0 2 2 (by omega)).trans h.y2, (k0 2 3 (by omega)).trans h.y3, (k0 2 4 (by omega)).trans h.y4, (k0 2 5 (by omega)).trans h.y5, (k0 2 6 (by omega)).trans h.y6, (k0 2 7 (by omega)).trans h.y7, (k0 2 8 (by omega)).trans h.y8, by have := hg.size; omega⟩
/-- the look at one letter -/
theorem take_one {a : Nat} {arg : Nat → LT} {q : VT → Bool} {L : List VT} {row : Option Nat} {I : List VT → World → Prop} {w : World} {e : Ending} {w' : World} (h : TakePost (a + 1) a arg q L row I w e w') (ok : OkBox (a + 1) a arg) :
    ∃ (A : Option Addr) (m c : Nat) (at' z0 z1 z2 z3 z5 z6 : Int) (s4 s7 : ByteArray) (A8 : Option Addr) (n8 c8 : Nat) (is : Bool), e = .returned (.tuple #[.agg #[.slice A m c, .int .i64 at'], .agg #[.int .i64 z0, .int .i64 z1, .int .i64 z2, .int .i64 z3, .string s4, .int .i64 z5, .int .i64 z6, .string s7, .slice A8 n8 c8], .bool is, .int .i64 0]) ∧ I (L ++ asks arg a (a + 1)) w' ∧ w.grownBy w' row := by
  rcases h with ⟨hno, _⟩ | ⟨_, ⟨i, hai, hin, hlo, hq, A, c, xs, rfl, h1, h2, h3, h4, h5, h6⟩ | ⟨hlo, A, c, rfl, h1, h2, h3, h4, h5⟩⟩
  · exact (hno ok).elim
  · obtain ⟨k2, m2, s2, A3, n3, c3, rfl, hv⟩ := id h4
    obtain rfl : i = a := by simp at hai; omega
    exact ⟨_, _, _, _, _, _, _, _, _, _, _, _, _, _, _, true, rfl, by simpa using h5, h6⟩
  · exact ⟨_, _, _, _, _, _, _, _, _, _, _, _, _, _, _, false, rfl, by simpa using h4, h5⟩
set_option maxRecDepth 100000 in
set_option maxHeartbeats 8000000 in
theorem pickAsks_go (n c : Nat) (A : Option Addr) (at_ : Int) (arg : Nat → LT) (S : Nat → Prop) (A2 : Option Addr) (n2 c2 : Nat) (T : Nat → Int) (x : LT) (xs : List Value) (Sx : Nat → Prop) (w : World) (hnc : n ≤ c) (hcm : c ≤ 9223372036854775807) (hA : A = none → n = 0) (hR : RdL w S A n arg) (hm : ∀ i, i < n → (arg i).val.many ≤ 4194304)
    (hn2 : n2 ≤ 9223372036854775807) (hI : Rd w 1 (tmC T) A2 n2) (hx : x.isL w Sx xs) (hxm : x.val.many ≤ 4194304) :
    Calls Try.prog 5 #[.agg #[.slice A n c, .int .i64 at_], .slice A2 n2 c2, .agg xs.toArray] w fun e w' => e = .returned (.bool true) ∧ Below w.heap.size w w' := by
  have HR := Lib.hid hR
  have HM := Lib.hid hm
  have HI := Lib.hid hI
  have HX := Lib.hid hx
  obtain ⟨k2, m2, s2, A3, n3, c3, rfl, hxv⟩ := id hx
  have HXV := Lib.hid hxv
  obtain ⟨W0, hW0⟩ : ∃ W0, W0 = ((w.alloc (.cells #[.slice A n c, .int .i64 at_] 38)).alloc (.cells #[.slice A2 n2 c2] 39)).alloc (.cells #[.int .i64 x.kind, .int .i64 x.frm, .int .i64 x.to, .int .i64 x.num, .string x.text, .int .i64 k2, .int .i64 m2, .string s2, .slice A3 n3 c3] 44) := ⟨_, rfl⟩
  have HK0 := Lib.hid (show KL W0 w.heap.size A n c at_ A2 n2 c2 (.int .i64 x.kind) (.int .i64 x.frm) (.int .i64 x.to) (.int .i64 x.num) (.string x.text) (.int .i64 k2) (.int .i64 m2) (.string s2) (.slice A3 n3 c3) by
    rw [hW0]
    constructor
    any_goals simp [go_sem])
  have HB0 := Lib.hid (show Below w.heap.size w W0 by rw [hW0]; exact (((Below.refl _ _).alloc (Nat.le_refl _) _).alloc (by simp) _).alloc (by simp; omega) _)
  have HZ0 := Lib.hid (show W0.heap.size = w.heap.size + 3 by rw [hW0]; simp)
  clear hR hm hI hA hx hxv
  go_enter Try.func5, Try.ntmps5
  go_wp2_with fail
  rw [← hW0]
  clear hW0
  simp only [Nat.add_assoc, Nat.reduceAdd]
  refine (picks_any _).mono ?_
  rintro e w1 ⟨rfl, hb1⟩
  have HB1 := Lib.hid (HB0.out.trans (hb1.mono HB0.out.size))
  have HK1 := Lib.hid (HK0.out.grown (grown_below (g := none) hb1) (by simp))
  clear hb1
  obtain ⟨p0, p1, t0, y0, y1, y2, y3, y4, y5, y6, y7, y8, sz⟩ := HK1.out
  go_wp2_with fail
  refine (boxCheck_any n c A at_ arg S _ (by omega) (HR.out.below HB1.out)).mono ?_
  rintro e w2 ⟨z, rfl, hz, hb2⟩
  have HZ := Lib.hid hz
  have HB2 := Lib.hid (HB1.out.trans (hb2.mono HB1.out.size))
  have HK2 := Lib.hid (HK1.out.grown (grown_below (g := none) hb2) (by simp))
  clear hz hb2 p0 p1 t0 y0 y1 y2 y3 y4 y5 y6 y7 y8 sz
  obtain ⟨p0, p1, t0, y0, y1, y2, y3, y4, y5, y6, y7, y8, sz⟩ := HK2.out
  by_cases hz0 : z = 0
  rotate_left
  · have e0 : (z != 0) = true := by simpa using hz0
    clear hz0
    go_wp2_with fail
    refine (picks_any _).mono ?_
    rintro e w3 ⟨rfl, hb3⟩
    have HB3 := Lib.hid (HB2.out.trans (hb3.mono HB2.out.size))
    clear hb3
    go_wp2_with fail
    go_ret
    exact ⟨rfl, HB3.out⟩
  subst hz0
  have HOK := Lib.hid (HZ.out.1 rfl)
  obtain ⟨a, rfl⟩ : ∃ a : Nat, at_ = a := ⟨at_.toNat, by have := HOK.out.2.1; omega⟩
  have hn60 := HOK.out.1
  have han : a ≤ n := by have := HOK.out.2.2.1; omega
  go_wp2_with fail
  refine (flat_any x.val _ Sx _ (isV_below HXV.out HB2.out) hxm).mono ?_
  rintro e w3 ⟨rfl, hb3⟩
  have HB3 := Lib.hid (HB2.out.trans (hb3.mono HB2.out.size))
  have HK3 := Lib.hid (HK2.out.grown (grown_below (g := none) hb3) (by simp))
  clear hb3 p0 p1 t0 y0 y1 y2 y3 y4 y5 y6 y7 y8 sz
  obtain ⟨p0, p1, t0, y0, y1, y2, y3, y4, y5, y6, y7, y8, sz⟩ := HK3.out
  generalize flatB x.val = fx
  cases fx with
  | false =>
    go_wp2_with fail
    refine (picks_any _).mono ?_
    rintro e w4 ⟨rfl, hb4⟩
    have HB4 := Lib.hid (HB3.out.trans (hb4.mono HB3.out.size))
    clear hb4
    go_wp2_with fail
    go_ret
    exact ⟨rfl, HB4.out⟩
  | true =>
  go_wp2_with fail
  refine (notFlat2 n c A arg S _ (by omega) (HR.out.below HB3.out) HM.out).mono ?_
  rintro e w4 ⟨rfl, hb4⟩
  have HB4 := Lib.hid (HB3.out.trans (hb4.mono HB3.out.size))
  have HK4 := Lib.hid (HK3.out.grown (grown_below (g := none) hb4) (by simp))
  clear hb4 p0 p1 t0 y0 y1 y2 y3 y4 y5 y6 y7 y8 sz
  obtain ⟨p0, p1, t0, y0, y1, y2, y3, y4, y5, y6, y7, y8, sz⟩ := HK4.out
  generalize anyOf (fun i => !flatB (arg i).val) n = fl
  cases fl with
  | true =>
    go_wp2_with fail
    refine (picks_any _).mono ?_
    rintro e w5 ⟨rfl, hb5⟩
    have HB5 := Lib.hid (HB4.out.trans (hb5.mono HB4.out.size))
    clear hb5
    go_wp2_with fail
    go_ret
    exact ⟨rfl, HB5.out⟩
  | false =>
  have hzw : w.heap.size < w4.heap.size := by omega
  obtain ⟨W5, hW5⟩ : ∃ W5, W5 = w4.alloc (.cells #[.int .i64 0] 3) := ⟨_, rfl⟩
  have hb45 : Below w4.heap.size w4 W5 := by rw [hW5]; exact (Below.refl _ _).alloc (Nat.le_refl _) _
  have HB5 := Lib.hid (HB4.out.trans (hb45.mono HB4.out.size))
  have HK5 := Lib.hid (HK4.out.grown (grown_below (g := none) hb45) (by simp))
  have hz5 : W5.heap.size = w4.heap.size + 1 := by rw [hW5]; simp
  obtain ⟨b0, hb0⟩ : ∃ b0, b0 = w4.heap.size := ⟨_, rfl⟩
  have HI5 := Lib.hid (show AsI (b0 + 1) b0 (w.heap.size + 1) A2 n2 c2 T [] W5 from ⟨by rw [hW5, hb0]; simp [wrap64], by rw [hW5, hb0]; simp, HK5.out.t0, RdB.of ((HI.out.below HB4.out)) (by omega) |>.frame hb45.size (fun b h1 h2 => hb45.block b h2)⟩)
  have HOKF := Lib.hid (ask2_ok (b0 + 1) b0 (w.heap.size + 1) A2 n2 c2 T hn2 (by omega) (by omega))
  have HT5 := Lib.hid (take_any n c A a arg S (b0 + 1) 24 #[.pointer (some ⟨b0, 0, none⟩), .pointer (some ⟨w.heap.size + 1, 0, none⟩)] (wants T n2) [] (some b0) _ W5 hnc hcm (HR.out.below HB5.out) HM.out HOKF.out HI5.out (by omega))
  clear hb45
  go_wp2_with fail
  rw [← hW5, ← hb0]
  have hq1 : w.heap.size + 3 ≤ b0 := by omega
  have hq2 : b0 + 1 ≤ W5.heap.size := by omega
  clear hW5 hb0 hz5
  refine HT5.out.mono ?_
  rintro e w6 (⟨hno, _⟩ | ⟨_, ⟨i, _, _, _, _, A6, c6, ys, rfl, _, _, _, h4, _, h6⟩ | ⟨_, A6, c6, rfl, hnc6, hcm6, hR6, hI6, hg6⟩⟩)
  · exact (hno HOK.out).elim
  · obtain ⟨k4, m4, s4, A4, n4, c4, rfl, _⟩ := h4
    have HB6 := Lib.hid (below_grown HB5.out (by omega) h6 (fun k hk => by injection hk with hk; omega))
    have hz6 := h6.size
    clear h6
    go_wp2_with fail
    go_ret
    exact ⟨rfl, (HB6.out.alloc (by omega) _).alloc (by simp; omega) _⟩
  · have HB6 := Lib.hid (below_grown HB5.out (by omega) hg6 (fun k hk => by injection hk with hk; omega))
    have HK6 := Lib.hid (HK5.out.grown hg6 (fun k hk => by injection hk with hk; omega))
    have hz6 := hg6.size
    have hI6' : AsI (b0 + 1) b0 (w.heap.size + 1) A2 n2 c2 T (asks arg a n) w6 := by simpa using hI6
    have HC6 := Lib.hid (show w6.cell? ⟨b0, 0, none⟩ = some (.int .i64 ((n : Int) - (a : Int))) by
      have h := hI6'.cnt
      rw [asks_len, show wrap64 ((n - a : Nat) : Int) = (n : Int) - (a : Int) by unfold wrap64; omega] at h
      exact h)
    obtain ⟨W6, hW6⟩ : ∃ W6, W6 = (w6.alloc (.cells #[.slice A6 n c6, .int .i64 (n : Int)] 38)).alloc (.cells #[.int .i64 0, .int .i64 0, .int .i64 0, .int .i64 0, .string ⟨#[]⟩, .int .i64 0, .int .i64 0, .string ⟨#[]⟩, .slice none 0 0] 44) := ⟨_, rfl⟩
    have hb66 : Below w6.heap.size w6 W6 := by rw [hW6]; exact ((Below.refl _ _).alloc (Nat.le_refl _) _).alloc (by simp) _
    have hzz6 : w6.heap.size + 2 ≤ W6.heap.size := by rw [hW6]; simp
    have a0 : W6.cell? ⟨w6.heap.size, 0, none⟩ = some (.slice A6 n c6) := by rw [hW6]; simp [go_sem]
    have a1 : W6.cell? ⟨w6.heap.size, 1, none⟩ = some (.int .i64 (n : Int)) := by rw [hW6]; simp [go_sem]
    have a2 : W6.cell? ⟨b0, 0, none⟩ = some (.int .i64 ((n : Int) - (a : Int))) := (hb66.cell (p := ⟨b0, 0, none⟩) (by show b0 < _; omega)).trans HC6.out
    have HK6' := Lib.hid (HK6.out.grown (grown_below (g := none) hb66) (by simp))
    have HB6' := Lib.hid (HB6.out.trans (hb66.mono (by omega)))
    have HI6 := Lib.hid (HOKF.out.keep _ _ _ hI6' (by omega) (hb66.mono (by omega)))
    have HT6 := Lib.hid (take_any n c6 A6 n arg _ (b0 + 1) 24 #[.pointer (some ⟨b0, 0, none⟩), .pointer (some ⟨w.heap.size + 1, 0, none⟩)] (wants T n2) (asks arg a n) (some b0) _ W6 hnc6 hcm6 (hR6.below hb66) HM.out HOKF.out HI6.out (by omega))
    clear hR6 hI6 hg6 hI6' hb66
    have d0 : (0 : Int) ≤ (n : Int) - (a : Int) := by omega
    have d1 : (n : Int) - (a : Int) ≤ 60 := by omega
    have cc6 := HC6.out
    have hbz6 : b0 < w6.heap.size := by omega
    unfold zeroL
    go_wp2_with fail
    rw [← hW6]
    clear hW6
    refine HT6.out.mono ?_
    rintro e w8 (⟨hno, _⟩ | ⟨_, ⟨i, hi1, hi2, _⟩ | ⟨_, A8, c8, rfl, hnc8, hcm8, hR8, hI8, hg8⟩⟩)
    · exact (hno ⟨HOK.out.1, by omega, by omega, HOK.out.2.2.2⟩).elim
    · simp at hi1; omega
    have HB8 := Lib.hid (below_grown HB6'.out (by omega) hg8 (fun k hk => by injection hk with hk; omega))
    have HK8 := Lib.hid (HK6'.out.grown hg8 (fun k hk => by injection hk with hk; omega))
    have hz8 := hg8.size
    have hI8' : AsI (b0 + 1) b0 (w.heap.size + 1) A2 n2 c2 T (asks arg a n) w8 := by simpa [asks_self] using hI8
    have HC8 := Lib.hid (show w8.cell? ⟨b0, 0, none⟩ = some (.int .i64 ((n : Int) - (a : Int))) by
      have h := hI8'.cnt
      rw [asks_len, show wrap64 ((n - a : Nat) : Int) = (n : Int) - (a : Int) by unfold wrap64; omega] at h
      exact h)
    obtain ⟨W8, hW8⟩ : ∃ W8, W8 = (w8.alloc (.cells #[.slice A8 n c8, .int .i64 (n : Int)] 38)).alloc (.cells #[.int .i64 0, .int .i64 0, .int .i64 0, .int .i64 0, .string ⟨#[]⟩, .int .i64 0, .int .i64 0, .string ⟨#[]⟩, .slice none 0 0] 44) := ⟨_, rfl⟩
    have hb88 : Below w8.heap.size w8 W8 := by rw [hW8]; exact ((Below.refl _ _).alloc (Nat.le_refl _) _).alloc (by simp) _
    have hzz8 : w8.heap.size + 2 ≤ W8.heap.size := by rw [hW8]; simp
    have HK8' := Lib.hid (HK8.out.grown (grown_below (g := none) hb88) (by simp))
    have HB8' := Lib.hid (HB8.out.trans (hb88.mono (by omega)))
    have HI8 := Lib.hid (HOKF.out.keep _ _ _ hI8' (by omega) (hb88.mono (by omega)))
    have f0 : W8.cell? ⟨w8.heap.size, 0, none⟩ = some (.slice A8 n c8) := by rw [hW8]; simp [go_sem]
    have f1 : W8.cell? ⟨w8.heap.size, 1, none⟩ = some (.int .i64 (n : Int)) := by rw [hW8]; simp [go_sem]
    have f2 : W8.cell? ⟨b0, 0, none⟩ = some (.int .i64 ((n : Int) - (a : Int))) := (hb88.cell (p := ⟨b0, 0, none⟩) (by show b0 < _; omega)).trans HC8.out
    have HPT := Lib.hid (put_any n c8 A8 n arg _ x _ Sx W8 hnc8 hcm8 (hR8.below hb88) (isL_frame (S' := Sx) HB8'.out.size (fun b hs hl => ⟨hs, HB8'.out.block b hl⟩) HX.out) ⟨HOK.out.1, by omega, by omega, HOK.out.2.2.2⟩ HM.out hxm)
    clear hR8 hI8 hg8 hI8' hb88 a0 a1 a2 p0 p1 t0 y0 y1 y2 y3 y4 y5 y6 y7 y8 sz
    obtain ⟨p0, p1, t0, y0, y1, y2, y3, y4, y5, y6, y7, y8, sz⟩ := HK8.out
    have hws : w.heap.size < w8.heap.size := by omega
    have cc8 := HC8.out
    have hbz8 : b0 < w8.heap.size := by omega
    unfold zeroL
    go_wp2_with fail
    rw [← hW8]
    clear hW8
    refine HPT.out.mono ?_
    rintro e w9 (⟨y, rfl, hy, hb9⟩ | ⟨hfx, hn6, A9, c9, rfl, hnc9, hcm9, hR9, hb9⟩)
    · have e9 : (y != 0) = true := by simpa using hy
      have HB9 := Lib.hid (HB8'.out.trans (hb9.mono HB8'.out.size))
      have hz9 := hb9.size
      clear hb9 hy
      go_wp2_with fail
      go_ret
      exact ⟨rfl, HB9.out.alloc HB9.out.size _⟩
    have HB9 := Lib.hid (HB8'.out.trans (hb9.mono HB8'.out.size))
    have hz9 := hb9.size
    obtain ⟨W9, hW9⟩ : ∃ W9, W9 = w9.alloc (.cells #[.slice A9 (n + 1) c9, .int .i64 (n : Int)] 38) := ⟨_, rfl⟩
    have hb99 : Below w9.heap.size w9 W9 := by rw [hW9]; exact (Below.refl _ _).alloc (Nat.le_refl _) _
    have hzz9 : w9.heap.size + 1 ≤ W9.heap.size := by rw [hW9]; simp
    have HB9' := Lib.hid (HB9.out.trans (hb99.mono HB9.out.size))
    have HI9 := Lib.hid (HOKF.out.keep _ _ _ HI8.out (by omega) ((hb9.mono (by omega)).trans (hb99.mono (by omega))))
    have HM9 := Lib.hid (show ∀ i, i < n + 1 → ((fun i => if i = n then x else arg i) i).val.many ≤ 4194304 from fun i hi => by
      by_cases e : i = n
      · simp only [e, if_true]; exact hxm
      · simp only [e, if_false]; exact HM.out i (by omega))
    have HOK9 := Lib.hid (show OkBox (n + 1) (n : Nat) (fun i => if i = n then x else arg i) from ⟨by omega, by omega, by omega, fun i hi => by
      by_cases e : i = n
      · simp only [e, if_true]; exact hfx
      · simp only [e, if_false]; exact HOK.out.2.2.2 i (by omega)⟩)
    have HT9 := Lib.hid (take_any (n + 1) c9 A9 n (fun i => if i = n then x else arg i) _ (b0 + 1) 24 #[.pointer (some ⟨b0, 0, none⟩), .pointer (some ⟨w.heap.size + 1, 0, none⟩)] (wants T n2) (asks arg a n) (some b0) _ W9 hnc9 hcm9 (hR9.below hb99) HM9.out HOKF.out HI9.out (by omega))
    have g0 : W9.cell? ⟨w9.heap.size, 0, none⟩ = some (.slice A9 (n + 1) c9) := by rw [hW9]; simp
    have g1 : W9.cell? ⟨w9.heap.size, 1, none⟩ = some (.int .i64 (n : Int)) := by rw [hW9]; simp
    clear hb9 hb99 hR9 p0 p1 t0 y0 y1 y2 y3 y4 y5 y6 y7 y8 sz f0 f1 f2 cc8
    go_wp2_with fail
    rw [← hW9]
    clear hW9
    refine HT9.out.mono ?_
    intro e w10 hpost
    obtain ⟨A10, m10, c10', at10, v0, v1, v2, v3, v5, v6, v4, v7, A11, n11, c11, is10, rfl, hI10, hg10⟩ := take_one hpost HOK9.out
    have HB10 := Lib.hid (below_grown HB9'.out (by omega) hg10 (fun k hk => by injection hk with hk; omega))
    have hz10 := hg10.size
    have c10 : w10.cell? ⟨b0, 0, none⟩ = some (.int .i64 ((n : Int) - (a : Int) + 1)) := by
      have h := hI10.cnt
      rw [List.length_append, asks_len, asks_len, show wrap64 ((n - a + (n + 1 - n) : Nat) : Int) = (n : Int) - (a : Int) + 1 by unfold wrap64; omega] at h
      exact h
    have hbz10 : b0 < w10.heap.size := by omega
    clear hpost hI10 hg10
    go_wp2_with fail
    go_ret
    exact ⟨rfl, (HB10.out.alloc (by omega) _).alloc (by simp; omega) _⟩
theorem bulk_three {H : Type} {d0 d1 d2 : DataW H} (hk : Rows.uptoSmall H [d0, d1, d2] = true) : Rows.uptoBulk d0 ≤ 1048576 ∧ Rows.uptoBulk d1 ≤ 1048576 ∧ Rows.uptoBulk d2 ≤ 1048576 := by
  have h := of_decide_eq_true hk
  simp only [Rows.uptoBulkAll] at h
  omega
theorem pickAsks_walk {H : Type} {enc : TypeId × Value → H} (W : World) (base : Nat) (v0 v1 v2 : Value) {d0 d1 d2 : DataW H} {p0 p1 p2 : List MemPlace}
    (k0 : Value.okWide Try.prog W .any base 38 v0) (k1 : Value.okWide Try.prog W .any base 39 v1) (k2 : Value.okWide Try.prog W .any base 44 v2)
    (h0 : DataW.Trod enc Try.prog W 0 (fun _ => true) true 38 v0 d0 p0) (h1 : DataW.Trod enc Try.prog W 0 (fun _ => true) true 39 v1 d1 p1) (h2 : DataW.Trod enc Try.prog W 0 (fun _ => true) true 44 v2 d2 p2) (hk : Rows.uptoSmall H [d0, d1, d2] = true) :
    Calls Try.prog 5 #[v0, v1, v2] W fun e W' => e = .returned (.bool true) ∧ Below W.heap.size W W' := by
  obtain ⟨b0, b1, b2⟩ := bulk_three hk
  obtain ⟨A, n, c, at_, arg, rfl, hnc, hcm, hA, hR, hm⟩ := open_box k0 h0
  obtain ⟨A2, n2, c2, T, rfl, hnc2, hcm2, _, hI, _⟩ := open_intsW k1 h1
  obtain ⟨l, cs, rfl, hl, hml⟩ := open_letter1 k2 h2
  exact pickAsks_go n c A at_ arg _ A2 n2 c2 T l cs _ W hnc hcm hA hR (fun i hi => by have := hm i hi; omega) (by omega) hI hl (by omega)
end Go.Proofs.Ytjalgnpbdcefdaa
