/- ward.Play from a supervisor without times. -/
import Derived.Test.YtcjkibjaajbfmaaWardPlayPlain
import Derived.Test.YtcjkibjaajbfmaaWardLaw
import Derived.Deep.AppendLies
import Derived.Deep.DeepCutAuto
namespace Go.Proofs.Ytcjkibjaajbfmaa
open Go.RowKit
set_option linter.unusedVariables false
theorem infoPl : (Try.prog.info? 27).map (fun i => (i.zero, i.size, i.bytes)) = some (some (.agg #[.slice none 0 0, .slice none 0 0, .bool false]), 3, 56) := by kernel_rfl
/-- the two boxes of a call of Play -/
structure PF (w wx : World) (v0 v1 v2 v3 v4 : Value) : Prop where
  a0 : wx.cell? ⟨w.heap.size, 0, none⟩ = some v0
  a1 : wx.cell? ⟨w.heap.size, 1, none⟩ = some v1
  a2 : wx.cell? ⟨w.heap.size, 2, none⟩ = some v2
  a3 : wx.cell? ⟨w.heap.size, 3, none⟩ = some v3
  a4 : wx.cell? ⟨w.heap.size, 4, none⟩ = some v4
  r0 : wx.cell? ⟨w.heap.size + 1, 0, none⟩ = some (.int .i64 0)
  r1 : wx.cell? ⟨w.heap.size + 1, 1, none⟩ = some (.int .i64 0)
  r2 : wx.cell? ⟨w.heap.size + 1, 2, none⟩ = some (.int .i64 0)
  r3 : wx.cell? ⟨w.heap.size + 1, 3, none⟩ = some (.slice none 0 0)
  r4 : wx.cell? ⟨w.heap.size + 1, 4, none⟩ = some (.slice none 0 0)
  fa : ∀ o, wx.frozen? ⟨w.heap.size, o, none⟩ = false
  fr : ∀ o, wx.frozen? ⟨w.heap.size + 1, o, none⟩ = false
  hz : w.heap.size + 1 < wx.heap.size
  hB : Below w.heap.size w wx
theorem PF.start (w : World) (v0 v1 v2 v3 v4 : Value) : PF w ((w.alloc (.cells #[v0, v1, v2, v3, v4] 25)).alloc (.cells #[.int .i64 0, .int .i64 0, .int .i64 0, .slice none 0 0, .slice none 0 0] 25)) v0 v1 v2 v3 v4 := by
  constructor
  any_goals (first | simp [go_sem] | (intro o; simp [go_sem]))
  exact ((Below.refl _ _).alloc (Nat.le_refl _) _).alloc (by simp) _
theorem PF.kept {w wx wy : World} {v0 v1 v2 v3 v4 : Value} (h : PF w wx v0 v1 v2 v3 v4) (hc : ∀ b o, b = w.heap.size ∨ b = w.heap.size + 1 → wy.cell? ⟨b, o, none⟩ = wx.cell? ⟨b, o, none⟩)
    (hf : ∀ b o, b = w.heap.size ∨ b = w.heap.size + 1 → wy.frozen? ⟨b, o, none⟩ = wx.frozen? ⟨b, o, none⟩) (hz : wx.heap.size ≤ wy.heap.size) (hB : Below w.heap.size w wy) : PF w wy v0 v1 v2 v3 v4 :=
  ⟨(hc _ _ (.inl rfl)).trans h.a0, (hc _ _ (.inl rfl)).trans h.a1, (hc _ _ (.inl rfl)).trans h.a2, (hc _ _ (.inl rfl)).trans h.a3, (hc _ _ (.inl rfl)).trans h.a4,
   (hc _ _ (.inr rfl)).trans h.r0, (hc _ _ (.inr rfl)).trans h.r1, (hc _ _ (.inr rfl)).trans h.r2, (hc _ _ (.inr rfl)).trans h.r3, (hc _ _ (.inr rfl)).trans h.r4,
   fun o => (hf _ _ (.inl rfl)).trans (h.fa o), fun o => (hf _ _ (.inr rfl)).trans (h.fr o), by have := h.hz; omega, hB⟩
theorem PF.below {w wx wy : World} {v0 v1 v2 v3 v4 : Value} (h : PF w wx v0 v1 v2 v3 v4) (hb : Below wx.heap.size wx wy) : PF w wy v0 v1 v2 v3 v4 :=
  h.kept (fun b o hh => hb.cell (p := ⟨b, o, none⟩) (by have := h.hz; show b < _; omega)) (fun b o hh => hb.frozen (p := ⟨b, o, none⟩) (by have := h.hz; show b < _; omega)) hb.size (h.hB.trans (hb.mono h.hB.size))
theorem PF.grown {w wx wy : World} {v0 v1 v2 v3 v4 : Value} {row : Option Nat} (h : PF w wx v0 v1 v2 v3 v4) (hg : wx.grownBy wy row) (hr : ∀ g, row = some g → w.heap.size + 2 ≤ g) : PF w wy v0 v1 v2 v3 v4 :=
  h.kept (fun b o hh => grown_cell hg (by have := h.hz; omega) (fun e => by have := hr b e.symm; omega)) (fun b o hh => grown_frozen hg (by have := h.hz; omega) (fun e => by have := hr b e.symm; omega)) hg.size (below_grown h.hB h.hB.size hg (fun k hk => by have := hr k hk; omega))
def put5 (wx : World) (b : Nat) (u0 u1 u2 u3 u4 : Value) : World := ((((wx.setCell ⟨b, 0, none⟩ u0).setCell ⟨b, 1, none⟩ u1).setCell ⟨b, 2, none⟩ u2).setCell ⟨b, 3, none⟩ u3).setCell ⟨b, 4, none⟩ u4
theorem PF.put {w wx : World} {v0 v1 v2 v3 v4 : Value} (h : PF w wx v0 v1 v2 v3 v4) (u0 u1 u2 u3 u4 : Value) : PF w (put5 wx w.heap.size u0 u1 u2 u3 u4) u0 u1 u2 u3 u4 := by
  have x0 : (wx.cell? ⟨w.heap.size, 0, none⟩).isSome = true := by rw [h.a0]; rfl
  have x1 : (wx.cell? ⟨w.heap.size, 1, none⟩).isSome = true := by rw [h.a1]; rfl
  have x2 : (wx.cell? ⟨w.heap.size, 2, none⟩).isSome = true := by rw [h.a2]; rfl
  have x3 : (wx.cell? ⟨w.heap.size, 3, none⟩).isSome = true := by rw [h.a3]; rfl
  have x4 : (wx.cell? ⟨w.heap.size, 4, none⟩).isSome = true := by rw [h.a4]; rfl
  unfold put5
  constructor
  · simp [go_sem, x0]
  · simp [go_sem, x1]
  · simp [go_sem, x2]
  · simp [go_sem, x3]
  · simp [go_sem, x4]
  · simp [go_sem, h.r0]
  · simp [go_sem, h.r1]
  · simp [go_sem, h.r2]
  · simp [go_sem, h.r3]
  · simp [go_sem, h.r4]
  · intro o; simp [go_sem, h.fa]
  · intro o; simp [go_sem, h.fr]
  · simpa using h.hz
  · exact below_set (below_set (below_set (below_set (below_set h.hB (by omega)) (by omega)) (by omega)) (by omega)) (by omega)
theorem own_put {w : World} {base : Nat} {e : TypeId} {sz n : Nat} {v : Value} {xs : List Value} {b : Nat} {u0 u1 u2 u3 u4 : Value} (h : w.ownsRow base e sz v n xs) (hb : b < base) : (put5 w b u0 u1 u2 u3 u4).ownsRow base e sz v n xs :=
  own_set (own_set (own_set (own_set (own_set h hb) hb) hb) hb) hb
theorem grown_put (w : World) (b : Nat) (u0 u1 u2 u3 u4 : Value) : w.grownBy (put5 w b u0 u1 u2 u3 u4) (some b) := grown_set (grown_set (grown_set (grown_set (grown_set (grown_self _ _) _) _) _) _) _
theorem PF.ret {w wx wz : World} {v0 v1 v2 v3 v4 : Value} (h : PF w wx v0 v1 v2 v3 v4) (u0 u1 u2 u3 u4 : Value) (hb : Below wx.heap.size (put5 wx (w.heap.size + 1) u0 u1 u2 u3 u4) wz) :
    wz.cell? ⟨w.heap.size + 1, 0, none⟩ = some u0 ∧ wz.cell? ⟨w.heap.size + 1, 1, none⟩ = some u1 ∧ wz.cell? ⟨w.heap.size + 1, 2, none⟩ = some u2 ∧ wz.cell? ⟨w.heap.size + 1, 3, none⟩ = some u3 ∧ wz.cell? ⟨w.heap.size + 1, 4, none⟩ = some u4 ∧ Below w.heap.size w wz := by
  have x0 : (wx.cell? ⟨w.heap.size + 1, 0, none⟩).isSome = true := by rw [h.r0]; rfl
  have x1 : (wx.cell? ⟨w.heap.size + 1, 1, none⟩).isSome = true := by rw [h.r1]; rfl
  have x2 : (wx.cell? ⟨w.heap.size + 1, 2, none⟩).isSome = true := by rw [h.r2]; rfl
  have x3 : (wx.cell? ⟨w.heap.size + 1, 3, none⟩).isSome = true := by rw [h.r3]; rfl
  have x4 : (wx.cell? ⟨w.heap.size + 1, 4, none⟩).isSome = true := by rw [h.r4]; rfl
  have k : ∀ o, wz.cell? ⟨w.heap.size + 1, o, none⟩ = (put5 wx (w.heap.size + 1) u0 u1 u2 u3 u4).cell? ⟨w.heap.size + 1, o, none⟩ := fun o => hb.cell (p := ⟨_, _, none⟩) h.hz
  refine ⟨(k 0).trans ?_, (k 1).trans ?_, (k 2).trans ?_, (k 3).trans ?_, (k 4).trans ?_, ?_⟩
  · simp [put5, go_sem, x0]
  · simp [put5, go_sem, x1]
  · simp [put5, go_sem, x2]
  · simp [put5, go_sem, x3]
  · simp [put5, go_sem, x4]
  · exact (below_set (below_set (below_set (below_set (below_set h.hB (by omega)) (by omega)) (by omega)) (by omega)) (by omega)).trans (hb.mono h.hB.size)
/-- behind 'w = next' -/
structure PMid (w wx : World) (H : Nat) (X : Wd) (R' : Nat → Ch) (T' : List Int) (A5 : Option Addr) (c5 : Nat) (B5 : Option Addr) (d5 : Nat) (P : Nat → Pl) (k : Nat) (v : Value) (S1 : Option Addr) (s1 : Nat) (S2 : Option Addr) (s2 n1 n2 : Nat) (gv : Bool) : Prop where
  pf : PF w wx (.int .i64 X.how) (.int .i64 X.most) (.int .i64 X.window) (.slice A5 X.n c5) (.slice B5 T'.length d5)
  row : wx.ownsRow (w.heap.size + 2) 34 3 (.slice A5 X.n c5) X.n (flatC (chC R') X.n)
  tim : OwnI wx (w.heap.size + 2) (.slice B5 T'.length d5) T'
  pl : wx.ownsRow (w.heap.size + 2) 27 3 v k (flatC (plC P) k)
  p0 : wx.cell? ⟨H, 0, none⟩ = some (.slice S1 n1 s1)
  p1 : wx.cell? ⟨H, 1, none⟩ = some (.slice S2 n2 s2)
  p2 : wx.cell? ⟨H, 2, none⟩ = some (.bool gv)
  sz : wx.heap.size = H + 1
theorem cell_new3 (W : World) (a b c : Value) (t : TypeId) (n : Nat) (hn : W.heap.size = n) : ∀ j u, [a, b, c][j]? = some u → (W.alloc (.cells #[a, b, c] t)).cell? ((⟨n, 0, none⟩ : Addr).add j) = some u := by
  intro j u hu
  rw [Addr.add_lit, World.cell?_alloc_at (w := W) #[a, b, c] t n (0 + j) hn.symm]
  simpa using hu
theorem cell_two (W : World) (o1 : Obj) (cs : Array Value) (t : TypeId) (o3 : Obj) (n : Nat) (hn : W.heap.size = n) (j : Nat) : (((W.alloc o1).alloc (.cells cs t)).alloc o3).cell? ⟨n + 1, j, none⟩ = cs[j]? := by
  rw [World.cell?_alloc_lt _ _ ⟨n + 1, j, none⟩ (by simp; omega), World.cell?_alloc_at (w := W.alloc o1) cs t (n + 1) j (by simp; omega)]
theorem play_results {tmps : Array Value} {wz : World} {H : Nat} {u0 u1 u2 u3 u4 v5 v6 : Value} (t4 : tmps.getD 4 undef = .pointer (some ⟨H, 0, none⟩)) (t5 : tmps.getD 5 undef = v5) (t6 : tmps.getD 6 undef = v6)
    (z0 : wz.cell? ⟨H, 0, none⟩ = some u0) (z1 : wz.cell? ⟨H, 1, none⟩ = some u1) (z2 : wz.cell? ⟨H, 2, none⟩ = some u2) (z3 : wz.cell? ⟨H, 3, none⟩ = some u3) (z4 : wz.cell? ⟨H, 4, none⟩ = some u4) :
    (results Try.f26 tmps).run Try.prog wz = .ok (.tuple #[.agg #[u0, u1, u2, u3, u4], v5, v6]) wz := by
  simp only [Array.getD_eq_getD_getElem?] at t4 t5 t6
  simp [results, Try.results26, go_sem, t4, t5, t6, z0, z1, z2, z3, z4]
def PlayErr (w : World) (e : Ending) (w' : World) : Prop := ∃ x : Int, x ≠ 0 ∧ e = .returned (.tuple #[.agg #[.int .i64 0, .int .i64 0, .int .i64 0, .slice none 0 0, .slice none 0 0], .slice none 0 0, .int .i64 x]) ∧ Below w.heap.size w w'
def PlayOk (X : Wd) (F : Nat → Fl) (nl : Nat) (w : World) (e : Ending) (w' : World) : Prop := ∃ (N : Nat) (P : Nat → Pl) (R : Nat → Ch) (A B : Option Addr) (c m d : Nat) (v : Value), N ≤ nl ∧ nl ≤ 50 ∧ OkW X ∧
  e = .returned (.tuple #[.agg #[.int .i64 X.how, .int .i64 X.most, .int .i64 X.window, .slice A X.n c, .slice B m d], v, .int .i64 0]) ∧ Below w.heap.size w w' ∧
  w'.ownsRow w.heap.size 27 3 v N (flatC (plC P) N) ∧ Rd w' 3 (chC R) A X.n ∧ GoodT X.window X.most (timesOf F P N) ∧ (∀ t ∈ timesOf F P N, 0 ≤ t ∧ t ≤ 1099511627776) ∧
  (∀ k, k + 1 < N → (P k).g = false) ∧ (∀ k, k < N → (P k).g = true → ∀ j, j < X.n → (R j).lives = false)
set_option maxRecDepth 100000 in
set_option maxHeartbeats 8000000 in
theorem play_any (X : Wd) (A B : Option Addr) (c d : Nat) (L : Option Addr) (nl cl : Nat) (F : Nat → Fl) (w : World) (hm0 : X.m = 0) (ha : ArgOk X A B c d w) (hl1 : nl ≤ cl) (hl2 : cl ≤ 9223372036854775807) (hL : Rd w 3 (flC F) L nl) :
    Calls Try.prog 26 #[.agg #[.int .i64 X.how, .int .i64 X.most, .int .i64 X.window, .slice A X.n c, .slice B X.m d], .slice L nl cl] w fun e w' => PlayErr w e w' ∨ PlayOk X F nl w e w' := by
  have HA := Lib.hid ha
  have HL := Lib.hid hL
  have HM0 := Lib.hid hm0
  have HF0 := Lib.hid (PF.start w (.int .i64 X.how) (.int .i64 X.most) (.int .i64 X.window) (.slice A X.n c) (.slice B 0 d))
  rw [hm0]
  clear ha hL hm0
  go_enter Try.func26, Try.ntmps26
  go_wp2_with fail
  have ha1 := HA.out.below (((Below.refl w.heap.size w).alloc (Nat.le_refl _) (.cells #[.int .i64 X.how, .int .i64 X.most, .int .i64 X.window, .slice A X.n c, .slice B 0 d] 25)).alloc (by simp) (.cells #[.int .i64 0, .int .i64 0, .int .i64 0, .slice none 0 0, .slice none 0 0] 25))
  have CK := check_any X A B c d _ ha1.hn ha1.hc ha1.hm ha1.hd ha1.hR ha1.hT
  rw [HM0.out] at CK
  refine CK.mono ?_
  clear CK
  rintro e w1 ⟨x, rfl, hx, hb⟩
  have HF1 := Lib.hid (HF0.out.below hb)
  have HX := Lib.hid hx
  have HA1 := Lib.hid (ha1.below hb)
  clear ha1 hb hx
  by_cases hx : x = 0
  rotate_left
  · have hx0 : (x != 0) = true := by simpa using hx
    have HX0 := Lib.hid hx
    obtain ⟨a0, a1, a2, a3, a4, r0, r1, r2, r3, r4, fa, fr, hz, hB⟩ := HF1.out
    clear hx
    go_wp2_with fail
    refine bodyPost_ret (v := .tuple #[.agg #[.int .i64 0, .int .i64 0, .int .i64 0, .slice none 0 0, .slice none 0 0], .slice none 0 0, .int .i64 x]) (by simp [results, Try.results26, go_sem, r0, r1, r2, r3, r4]) rfl ?_
    exact .inl ⟨x, HX0.out, rfl, below_set (below_set (below_set (below_set (below_set hB (by omega)) (by omega)) (by omega)) (by omega)) (by omega)⟩
  have hx0 : (x != 0) = false := by simp [hx]
  have HOK := Lib.hid (HX.out.1 hx)
  clear hx
  by_cases h50 : 50 < nl
  · have d50 : decide ((50 : Int) < (nl : Int)) = true := by simp; omega
    obtain ⟨a0, a1, a2, a3, a4, r0, r1, r2, r3, r4, fa, fr, hz, hB⟩ := HF1.out
    go_wp2_with fail
    refine bodyPost_ret (v := .tuple #[.agg #[.int .i64 0, .int .i64 0, .int .i64 0, .slice none 0 0, .slice none 0 0], .slice none 0 0, .int .i64 2]) (by simp [results, Try.results26, go_sem, r0, r1, r2, r3, r4]) rfl ?_
    exact .inl ⟨2, by omega, rfl, below_set (below_set (below_set (below_set (below_set hB (by omega)) (by omega)) (by omega)) (by omega)) (by omega)⟩
  have d50 : decide ((50 : Int) < (nl : Int)) = false := by simp; omega
  have hn20 := HOK.out.2.1
  obtain ⟨a0, a1, a2, a3, a4, r0, r1, r2, r3, r4, fa, fr, hz, hB⟩ := HF1.out
  go_wp2_with fail
  have CP := copyOf_any X A B c d _ hn20 HOK.out.2.2.1 HA1.out.hA HA1.out.hB HA1.out.hR HA1.out.hT
  rw [HM0.out] at CP
  refine CP.mono ?_
  clear CP
  rintro e w2 ⟨A2, c2, B2, d2, rfl, hownR, hownT, _, hb2⟩
  rw [HM0.out] at hownT ⊢
  have hF2 := HF1.out.below hb2
  have HF2 := Lib.hid (hF2.put (.int .i64 X.how) (.int .i64 X.most) (.int .i64 X.window) (.slice A2 X.n c2) (.slice B2 0 d2))
  have hbase : w.heap.size + 2 ≤ w1.heap.size := by have := HF1.out.hz; omega
  have HOR := Lib.hid (own_put (b := w.heap.size) (u0 := .int .i64 X.how) (u1 := .int .i64 X.most) (u2 := .int .i64 X.window) (u3 := .slice A2 X.n c2) (u4 := .slice B2 0 d2) (own_mono (base' := w.heap.size + 2) hownR hbase) (by omega))
  have HOT := Lib.hid (own_put (b := w.heap.size) (u0 := .int .i64 X.how) (u1 := .int .i64 X.most) (u2 := .int .i64 X.window) (u3 := .slice A2 X.n c2) (u4 := .slice B2 0 d2) (own_mono (base' := w.heap.size + 2) hownT hbase) (by omega))
  clear a0 a1 a2 a3 a4 r0 r1 r2 r3 r4 fa fr hz hB hownR hownT hb2
  obtain ⟨a0, a1, a2, a3, a4, r0, r1, r2, r3, r4, fa, fr, hz, hB⟩ := hF2
  go_wp2_with fail
  clear a0 a1 a2 a3 a4 r0 r1 r2 r3 r4 fa fr hz hB
  obtain ⟨i0, hi0, hz0, hz1, hz2⟩ := info_parts infoPl
  go_loopw [8, 10, 11, 12, 13, 28] (fun o _ _ _ _ x wr => ∃ (k : Nat) (R : Nat → Ch) (T : List Int) (P : Nat → Pl) (A : Option Addr) (c : Nat) (B : Option Addr) (d : Nat) (v : Value), k ≤ nl ∧ x = .int .i64 k ∧ v = o ∧ PF w wr (.int .i64 X.how) (.int .i64 X.most) (.int .i64 X.window) (.slice A X.n c) (.slice B T.length d) ∧
    wr.ownsRow (w.heap.size + 2) 34 3 (.slice A X.n c) X.n (flatC (chC R) X.n) ∧ OwnI wr (w.heap.size + 2) (.slice B T.length d) T ∧ wr.ownsRow (w.heap.size + 2) 27 3 v k (flatC (plC P) k) ∧ (∀ j, j < k → (P j).g = false) ∧ TInv X.window X.most (timesOf F P k) T) (fun _ _ _ _ _ x _ => nl - (intOf x).toNat)
  case atStart =>
    refine ⟨0, X.R, [], fun _ => ⟨none, 0, 0, none, 0, 0, false⟩, A2, c2, B2, d2, _, Nat.zero_le _, rfl, rfl, ?_, HOR.out, ?_, World.ownsRow_nil _ _ _ _, fun j hj => by omega, TInv.start _ _⟩
    · exact HF2.out
    · exact HOT.out
  case round =>
    obtain ⟨k, R, T, P, A4, c4, B4, d4, v, hk, rfl, rfl, hF, hOR, hOT, hOP, hg, hT⟩ := hrel
    have HF := Lib.hid hF
    have HOP := Lib.hid hOP
    have HT := Lib.hid hT
    have HG := Lib.hid hg
    obtain ⟨n1, n2, n3⟩ : X.n ≤ c4 ∧ c4 ≤ 9223372036854775807 ∧ (A4 = none → X.n = 0) := by
      obtain ⟨A', c', e, h1, h2, h3⟩ := own_any hOR
      injection e with e1 e2 e3
      subst e1 e3
      exact ⟨h1, h2, h3⟩
    obtain ⟨m1, m2, m3⟩ : T.length ≤ d4 ∧ d4 ≤ 9223372036854775807 ∧ (B4 = none → T.length = 0) := by
      obtain ⟨A', c', e, h1, h2, h3⟩ := own_any hOT
      injection e with e1 e2 e3
      subst e1 e3
      exact ⟨h1, h2, h3⟩
    have HAR := Lib.hid (show ArgOk (wdOf X R T) A4 B4 c4 d4 wr from ⟨n1, n2, m1, m2, n3, m3, Rd.of_own (chC_len _) hOR, hOT.rd⟩)
    obtain ⟨Av, cv, rfl, v1, v2, v3⟩ := own_any hOP
    have HRR := Lib.hid (show Rd wr 3 (chC R) A4 X.n from Rd.of_own (chC_len _) hOR)
    have HOR4 := Lib.hid hOR
    clear hF hOR hOT hOP hT hg n3 m3 v3
    by_cases hlt : k < nl
    rotate_left
    · obtain ⟨a0, a1, a2, a3, a4, r0, r1, r2, r3, r4, fa, fr, hz, hB⟩ := HF.out
      have hkn : ¬ ((k : Int) < (nl : Int)) := by omega
      go_wp2_with fail
      (try simp only [Exit.inBlock, Exit.then])
      obtain ⟨z0, z1, z2, z3, z4, zb⟩ := HF.out.ret (.int .i64 X.how) (.int .i64 X.most) (.int .i64 X.window) (.slice A4 X.n c4) (.slice B4 T.length d4) (wz := put5 wr (w.heap.size + 1) (.int .i64 X.how) (.int .i64 X.most) (.int .i64 X.window) (.slice A4 X.n c4) (.slice B4 T.length d4)) (Below.refl _ _)
      refine bodyPost_ret (play_results (H := w.heap.size + 1) rfl rfl rfl z0 z1 z2 z3 z4) rfl ?_
      refine .inr ⟨k, P, R, A4, B4, c4, T.length, d4, _, hk, by omega, HOK.out, rfl, zb, own_mono (own_put (b := w.heap.size + 1) HOP.out (by omega)) (by omega), Rd.of_own (chC_len _) (own_put (b := w.heap.size + 1) HOR4.out (by omega)), HT.out.1, HT.out.2.1, fun j hj => HG.out j (by omega), fun j hj h => ?_⟩
      have := HG.out j hj
      rw [this] at h
      cases h
    obtain ⟨bl, ol, hLe, hbl, hcell⟩ := (HL.out.below HF.out.hB) (by omega)
    subst hLe
    have l0 := hcell k hlt 0 _ rfl
    have l1 := hcell k hlt 1 _ rfl
    have l2 := hcell k hlt 2 _ rfl
    simp only [Nat.add_zero] at l0
    clear hcell
    obtain ⟨fk, hfk⟩ : ∃ fk, F k = fk := ⟨_, rfl⟩
    have HFK := Lib.hid hfk
    rw [hfk] at l0 l1 l2
    clear hfk
    obtain ⟨fid, ffail, fnow⟩ := fk
    dsimp only at l0 l1 l2
    obtain ⟨a0, a1, a2, a3, a4, r0, r1, r2, r3, r4, fa, fr, hz, hB⟩ := HF.out
    have i1 : (0 : Int) ≤ (k : Int) := by omega
    have i2 : (k : Int) < (nl : Int) := by omega
    have hz' : w.heap.size < wr.heap.size := by omega
    go_wp2_with fail
    refine (down_any (wdOf X R T) A4 B4 c4 d4 fid ffail fnow _ (by exact HAR.out.below ((Below.refl _ _).alloc (Nat.le_refl _) _))).mono ?_
    rintro e w3 (⟨⟨y, hy, rfl, hb3⟩, _⟩ | ⟨i, hok, R', T', st, sp, gv, hr, A5, c5, B5, d5, vs, vt, rfl, hrow, htim, hsp, hst, hb3⟩)
    · have hy0 : (y != 0) = true := by simpa using hy
      have HY := Lib.hid hy
      clear a0 a1 a2 a3 a4 r0 r1 r2 r3 r4 fa fr hz hB l0 l1 l2 hy
      have HF5 := Lib.hid (HF.out.below (((Below.refl _ _).alloc (Nat.le_refl _) _).trans (hb3.mono (by simp))))
      obtain ⟨a0, a1, a2, a3, a4, r0, r1, r2, r3, r4, fa, fr, hz, hB⟩ := HF5.out
      clear hb3
      have hz1 : w.heap.size < w3.heap.size := by omega
      have hz2' : w.heap.size < w3.heap.size + 1 := by omega
      go_wp2_with fail
      (try simp only [Exit.inBlock, Exit.then])
      obtain ⟨z0, z1, z2, z3, z4, zb⟩ := HF5.out.ret (.int .i64 0) (.int .i64 0) (.int .i64 0) (.slice none 0 0) (.slice none 0 0) (wz := ((put5 w3 (w.heap.size + 1) (.int .i64 0) (.int .i64 0) (.int .i64 0) (.slice none 0 0) (.slice none 0 0)).alloc (.cells #[.int .i64 0, .int .i64 0, .int .i64 0, .slice none 0 0, .slice none 0 0] 25)).alloc (.cells #[.slice none 0 0, .slice none 0 0, .bool false] 27)) (((Below.refl _ _).alloc (by simp [put5]) _).alloc (by simp [put5]) _)
      refine bodyPost_ret (play_results (H := w.heap.size + 1) rfl rfl rfl z0 z1 z2 z3 z4) rfl ?_
      exact .inl ⟨y, HY.out, rfl, zb⟩
    · dsimp only [wdOf]
      obtain ⟨S1, s1, rfl, _, _, _⟩ := own_any hsp
      obtain ⟨S2, s2, rfl, _, _, _⟩ := own_any hst
      have HB3 := Lib.hid (((Below.refl wr.heap.size wr).alloc (Nat.le_refl _) (.cells #[.int .i64 fid, .bool ffail, .int .i64 fnow] 49)).trans (hb3.mono (by simp)))
      have HDT := Lib.hid (down_times hok hr HT.out)
      have HF3 := Lib.hid (HF.out.below HB3.out)
      have HOP3 := Lib.hid (own_keep HOP.out HB3.out)
      have hbs : w.heap.size + 2 ≤ wr.heap.size + 1 := by have := HF.out.hz; omega
      have HROW := Lib.hid (own_mono (base' := wr.heap.size + 1) hrow (by simp))
      have HTIM := Lib.hid (OwnI.mono (base' := wr.heap.size + 1) htim (by simp))
      clear a0 a1 a2 a3 a4 r0 r1 r2 r3 r4 fa fr hz hB l0 l1 l2 hok hr hsp hst hb3 hrow htim
      obtain ⟨a0, a1, a2, a3, a4, r0, r1, r2, r3, r4, fa, fr, hz, hB⟩ := HF3.out
      have hz' : w.heap.size < w3.heap.size := by omega
      have hB3s := HB3.out.size
      have HF4 := Lib.hid (HF3.out.put (.int .i64 X.how) (.int .i64 X.most) (.int .i64 X.window) (.slice A5 X.n c5) (.slice B5 T'.length d5))
      have HOP4 := Lib.hid (own_put (b := w.heap.size) (u0 := .int .i64 X.how) (u1 := .int .i64 X.most) (u2 := .int .i64 X.window) (u3 := .slice A5 X.n c5) (u4 := .slice B5 T'.length d5) HOP3.out (by omega))
      have HROW4 := Lib.hid (own_put (b := w.heap.size) (u0 := .int .i64 X.how) (u1 := .int .i64 X.most) (u2 := .int .i64 X.window) (u3 := .slice A5 X.n c5) (u4 := .slice B5 T'.length d5) HROW.out (by omega))
      have HTIM4 := Lib.hid (own_put (b := w.heap.size) (u0 := .int .i64 X.how) (u1 := .int .i64 X.most) (u2 := .int .i64 X.window) (u3 := .slice A5 X.n c5) (u4 := .slice B5 T'.length d5) HTIM.out (by omega))
      have hsz4 : (put5 w3 w.heap.size (.int .i64 X.how) (.int .i64 X.most) (.int .i64 X.window) (.slice A5 X.n c5) (.slice B5 T'.length d5)).heap.size = w3.heap.size := by simp [put5]
      have HSZ4 := Lib.hid hsz4
      clear hsz4
      have HRB := Lib.hid (fun g (hg : (Value.slice Av k cv).ownBlock = some g) => HOP.out.lt g hg)
      go_upto_region 14 with (fail)
      go_cut [] (fun wx => PMid w wx (w3.heap.size + 1) X R' T' A5 c5 B5 d5 P k (.slice Av k cv) S1 s1 S2 s2 sp.length st.length gv)
      case first =>
        go_wp2_with fail
        go_meet
        have hsz4 := HSZ4.out
        refine ⟨(HF4.out.below (((Below.refl _ _).alloc (Nat.le_refl _) _).alloc (by simp) _)), World.ownsRow.alloc (World.ownsRow.alloc (own_mono HROW4.out hbs) _) _, World.ownsRow.alloc (World.ownsRow.alloc (own_mono HTIM4.out hbs) _) _, World.ownsRow.alloc (World.ownsRow.alloc HOP4.out _) _, ?_, ?_, ?_, ?_⟩
        · simp [go_sem]
        · simp [go_sem]
        · simp [go_sem]
        · simp
      case rest =>
      obtain ⟨hpf, hrow, htim, hpl, p0, p1, p2, hsz⟩ := hcut
      have HPF := Lib.hid hpf
      have HROW5 := Lib.hid hrow
      have HTIM5 := Lib.hid htim
      have HPL := Lib.hid hpl
      have HP2 := Lib.hid p2
      have HSZ := Lib.hid hsz
      have HW9 := Lib.hid (show w3.heap.size + 1 < wc.heap.size by omega)
      have hbw : w.heap.size + 2 ≤ wc.heap.size := by omega
      have HRB5 := Lib.hid (fun g (hg : (Value.slice Av k cv).ownBlock = some g) => (show w.heap.size + 2 ≤ g ∧ g < wr.heap.size from ⟨(HRB.out g hg).1, (HRB.out g hg).2⟩))
      have hwr3 : wr.heap.size ≤ w3.heap.size := hB3s
      have HRL := Lib.hid (fun g (hg : (Value.slice A5 X.n c5).ownBlock = some g) => (HROW.out.lt g hg).1)
      have HTL := Lib.hid (fun g (hg : (Value.slice B5 T'.length d5).ownBlock = some g) => (HTIM.out.lt g hg).1)
      clear hpf hrow htim hpl hsz a0 a1 a2 a3 a4 r0 r1 r2 r3 r4 fa fr hz hB HF3 HF4 HOP3 HOP4 HROW HTIM HROW4 HTIM4 HSZ4 hz'
      cases gv with
      | false =>
        go_wp2_with (at_builtin; go_loud (refine wpList_append_own_at _ rfl _ _ 45 rfl (w.heap.size + 2) 27 i0 _ 3 56 Try.underlying45 hi0 hz0 hz1 hz2 rfl (by omega) (.slice Av k cv) k (flatC (plC P) k) rfl (HPL.out.alloc _) ⟨wc.heap.size, 0, none⟩ 1 1 [.slice S1 sp.length s1, .slice S2 st.length s2, .bool false] rfl rfl (cell_new3 _ _ _ _ _ _ rfl) (fun u hu => by simp at hu; rcases hu with rfl | rfl | rfl <;> rfl) (by unfold maxLen; omega) (by omega) (by simp; omega) ?_; intro v8 w8 hown8 hgrow8 _ _; have HO8 := Lib.hid hown8; have HG8 := Lib.hid hgrow8; clear hown8 hgrow8; have q2 : w8.cell? ⟨w3.heap.size + 1, 2, none⟩ = some (.bool false) := (grown_cell HG8.out (by simp; have := HW9.out; omega) (fun e => by have := (HRB5.out _ e.symm).2; omega)).trans ((World.cell?_alloc_lt _ _ ⟨_, _, none⟩ HW9.out).trans HP2.out); clear p0 p1 p2; have HF8 := Lib.hid (PF.grown (HPF.out.below ((Below.refl _ _).alloc (Nat.le_refl _) _)) HG8.out (fun g hg => (HRB5.out g hg).1)); obtain ⟨a0, a1, a2, a3, a4, r0, r1, r2, r3, r4, fa, fr, hz, hB⟩ := HF8.out))
        have HROW8 := Lib.hid (own_grown (World.ownsRow.alloc HROW5.out _) HG8.out (fun g hg e => by have h1 := HRL.out g hg; have h2 := (HRB5.out g e).2; omega))
        have HTIM8 := Lib.hid (own_grown (World.ownsRow.alloc HTIM5.out _) HG8.out (fun g hg e => by have h1 := HTL.out g hg; have h2 := (HRB5.out g e).2; omega))
        obtain ⟨_, hti⟩ : false = false ∧ TInv X.window X.most (timesOf F P k ++ if 0 < st.length then [fnow] else []) T' := by
          rcases HDT.out with h | h
          · exact ⟨rfl, h.2⟩
          · exact absurd h.1 (by simp)
        go_roundw
        case rel =>
          refine ⟨k + 1, R', T', updP P k ⟨S1, sp.length, s1, S2, st.length, s2, false⟩, A5, c5, B5, d5, v8, by omega, by go_num, rfl, HF8.out, HROW8.out, HTIM8.out, ?_, fun j hj => ?_, ?_⟩
          · have h := HO8.out
            rw [← flatC_updP P k ⟨S1, sp.length, s1, S2, st.length, s2, false⟩]
            exact h
          · unfold updP
            split
            · rfl
            · exact HG.out j (by omega)
          · rw [timesOf_upd, HFK.out]
            exact hti
        case measure => simp [intOf]; omega
      | true =>
        go_wp2_with (at_builtin; go_loud (refine wpList_append_own_at _ rfl _ _ 45 rfl (w.heap.size + 2) 27 i0 _ 3 56 Try.underlying45 hi0 hz0 hz1 hz2 rfl (by omega) (.slice Av k cv) k (flatC (plC P) k) rfl (HPL.out.alloc _) ⟨wc.heap.size, 0, none⟩ 1 1 [.slice S1 sp.length s1, .slice S2 st.length s2, .bool true] rfl rfl (cell_new3 _ _ _ _ _ _ rfl) (fun u hu => by simp at hu; rcases hu with rfl | rfl | rfl <;> rfl) (by unfold maxLen; omega) (by omega) (by simp; omega) ?_; intro v8 w8 hown8 hgrow8 _ _; have HO8 := Lib.hid hown8; have HG8 := Lib.hid hgrow8; clear hown8 hgrow8; have q2 : w8.cell? ⟨w3.heap.size + 1, 2, none⟩ = some (.bool true) := (grown_cell HG8.out (by simp; have := HW9.out; omega) (fun e => by have := (HRB5.out _ e.symm).2; omega)).trans ((World.cell?_alloc_lt _ _ ⟨_, _, none⟩ HW9.out).trans HP2.out); clear p0 p1 p2; have HF8 := Lib.hid (PF.grown (HPF.out.below ((Below.refl _ _).alloc (Nat.le_refl _) _)) HG8.out (fun g hg => (HRB5.out g hg).1)); obtain ⟨a0, a1, a2, a3, a4, r0, r1, r2, r3, r4, fa, fr, hz, hB⟩ := HF8.out))
        have HROW8 := Lib.hid (own_grown (World.ownsRow.alloc HROW5.out _) HG8.out (fun g hg e => by have h1 := HRL.out g hg; have h2 := (HRB5.out g e).2; omega))
        have HTIM8 := Lib.hid (own_grown (World.ownsRow.alloc HTIM5.out _) HG8.out (fun g hg e => by have h1 := HTL.out g hg; have h2 := (HRB5.out g e).2; omega))
        obtain ⟨_, hst0, hdead⟩ : true = true ∧ st.length = 0 ∧ ∀ j, j < X.n → (R' j).lives = false := by
          rcases HDT.out with h | h
          · exact absurd h.1 (by simp)
          · exact ⟨rfl, h.2⟩
        (try simp only [Exit.inBlock, Exit.then])
        obtain ⟨z0, z1, z2, z3, z4, zb⟩ := HF8.out.ret (.int .i64 X.how) (.int .i64 X.most) (.int .i64 X.window) (.slice A5 X.n c5) (.slice B5 T'.length d5) (wz := put5 w8 (w.heap.size + 1) (.int .i64 X.how) (.int .i64 X.most) (.int .i64 X.window) (.slice A5 X.n c5) (.slice B5 T'.length d5)) (Below.refl _ _)
        refine bodyPost_ret (play_results (H := w.heap.size + 1) rfl rfl rfl z0 z1 z2 z3 z4) rfl ?_
        refine .inr ⟨k + 1, updP P k ⟨S1, sp.length, s1, S2, st.length, s2, true⟩, R', A5, B5, c5, T'.length, d5, v8, by omega, by omega, HOK.out, rfl, zb, ?_, ?_, ?_, ?_, fun j hj => ?_, fun _ _ _ => hdead⟩
        · have h := own_mono (base' := w.heap.size) (own_put (b := w.heap.size + 1) (u0 := .int .i64 X.how) (u1 := .int .i64 X.most) (u2 := .int .i64 X.window) (u3 := .slice A5 X.n c5) (u4 := .slice B5 T'.length d5) HO8.out (by omega)) (by omega)
          rw [← flatC_updP P k ⟨S1, sp.length, s1, S2, st.length, s2, true⟩]
          exact h
        · exact Rd.of_own (chC_len _) (own_put (b := w.heap.size + 1) HROW8.out (by omega))
        · rw [timesOf_upd, if_neg (by simp [hst0]), List.append_nil]
          exact HT.out.1
        · rw [timesOf_upd, if_neg (by simp [hst0]), List.append_nil]
          exact HT.out.2.1
        · unfold updP
          rw [if_neg (by omega)]
          exact HG.out j (by omega)
end Go.Proofs.Ytcjkibjaajbfmaa
