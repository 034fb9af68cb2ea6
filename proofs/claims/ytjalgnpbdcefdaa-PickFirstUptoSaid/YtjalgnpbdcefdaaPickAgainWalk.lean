/- PickAgain: the walk. -/
import Derived.Test.YtjalgnpbdcefdaaPickUse
import Derived.Test.YtjalgnpbdcefdaaPickInts
import Derived.Deep.DeepCutAuto
namespace Go.Proofs.Ytjalgnpbdcefdaa
open Go.RowKit Go.ChangeShapes Go.WideShapes
set_option linter.unusedVariables false
/-- the boxes of the law: the box and the numbers -/
structure KA (wx : World) (b : Nat) (A : Option Addr) (n c : Nat) (at_ : Int) (A2 : Option Addr) (n2 c2 : Nat) : Prop where
  p0 : wx.cell? ⟨b, 0, none⟩ = some (.slice A n c)
  p1 : wx.cell? ⟨b, 1, none⟩ = some (.int .i64 at_)
  t0 : wx.cell? ⟨b + 1, 0, none⟩ = some (.slice A2 n2 c2)
  sz : b + 1 < wx.heap.size
theorem KA.grown {wx wy : World} {b : Nat} {A : Option Addr} {n c : Nat} {at_ : Int} {A2 : Option Addr} {n2 c2 : Nat} {row : Option Nat} (h : KA wx b A n c at_ A2 n2 c2) (hg : wx.grownBy wy row) (hr : ∀ k, row = some k → b + 2 ≤ k) : KA wy b A n c at_ A2 n2 c2 := by
  have hz := h.sz
  have k0 : ∀ j o, j < 2 → wy.cell? ⟨b + j, o, none⟩ = wx.cell? ⟨b + j, o, none⟩ := fun j o hj => grown_cell hg (by omega) (fun e => by have := hr _ e.symm; omega)
  exact ⟨(k0 0 0 (by omega)).trans h.p0, (k0 0 1 (by omega)).trans h.p1, (k0 1 0 (by omega)).trans h.t0, by have := hg.size; omega⟩
/-- a box and a letter, side by side -/
structure KT (wx : World) (b : Nat) (u0 u1 v0 v1 v2 v3 v4 v5 v6 v7 v8 : Value) : Prop where
  p0 : wx.cell? ⟨b, 0, none⟩ = some u0
  p1 : wx.cell? ⟨b, 1, none⟩ = some u1
  y0 : wx.cell? ⟨b + 1, 0, none⟩ = some v0
  y1 : wx.cell? ⟨b + 1, 1, none⟩ = some v1
  y2 : wx.cell? ⟨b + 1, 2, none⟩ = some v2
  y3 : wx.cell? ⟨b + 1, 3, none⟩ = some v3
  y4 : wx.cell? ⟨b + 1, 4, none⟩ = some v4
  y5 : wx.cell? ⟨b + 1, 5, none⟩ = some v5
  y6 : wx.cell? ⟨b + 1, 6, none⟩ = some v6
  y7 : wx.cell? ⟨b + 1, 7, none⟩ = some v7
  y8 : wx.cell? ⟨b + 1, 8, none⟩ = some v8
  sz : b + 1 < wx.heap.size
theorem KT.grown {wx wy : World} {b : Nat} {u0 u1 v0 v1 v2 v3 v4 v5 v6 v7 v8 : Value} {row : Option Nat} (h : KT wx b u0 u1 v0 v1 v2 v3 v4 v5 v6 v7 v8) (hg : wx.grownBy wy row) (hr : ∀ k, row = some k → k < b) : KT wy b u0 u1 v0 v1 v2 v3 v4 v5 v6 v7 v8 := by
  have hz := h.sz
  have k0 : ∀ j o, j < 2 → wy.cell? ⟨b + j, o, none⟩ = wx.cell? ⟨b + j, o, none⟩ := fun j o hj => grown_cell hg (by omega) (fun e => by have := hr _ e.symm; omega)
  exact ⟨(k0 0 0 (by omega)).trans h.p0, (k0 0 1 (by omega)).trans h.p1, (k0 1 0 (by omega)).trans h.y0, (k0 1 1 (by omega)).trans h.y1, (k0 1 2 (by omega)).trans h.y2, (k0 1 3 (by omega)).trans h.y3, (k0 1 4 (by omega)).trans h.y4, (k0 1 5 (by omega)).trans h.y5, (k0 1 6 (by omega)).trans h.y6, (k0 1 7 (by omega)).trans h.y7, (k0 1 8 (by omega)).trans h.y8, by have := hg.size; omega⟩
theorem KT.new (w : World) (u0 u1 v0 v1 v2 v3 v4 v5 v6 v7 v8 : Value) (t1 t2 : TypeId) : KT ((w.alloc (.cells #[u0, u1] t1)).alloc (.cells #[v0, v1, v2, v3, v4, v5, v6, v7, v8] t2)) w.heap.size u0 u1 v0 v1 v2 v3 v4 v5 v6 v7 v8 := by
  constructor
  any_goals simp [go_sem]
def zeroLT : LT := ⟨0, 0, 0, 0, ⟨#[]⟩, .node 0 0 ⟨#[]⟩ 0 (fun _ => .none)⟩
/-- what a look brings -/
def Outc (n a : Nat) (arg : Nat → LT) (q : VT → Bool) (m : Nat) (at' : Int) (arg' : Nat → LT) (l : LT) (is : Bool) : Prop :=
  (∃ i, a ≤ i ∧ i < n ∧ (∀ j, a ≤ j → j < i → q (arg j).says = false) ∧ q (arg i).says = true ∧ m = n - 1 ∧ at' = 0 ∧ arg' = cutA arg i ∧ l = arg i ∧ is = true) ∨
  ((∀ j, a ≤ j → j < n → q (arg j).says = false) ∧ m = n ∧ at' = n ∧ arg' = arg ∧ l = zeroLT ∧ is = false)
theorem outc_same {n a : Nat} {arg : Nat → LT} {q : VT → Bool} {m m2 : Nat} {at1 at2 : Int} {arg1 arg2 : Nat → LT} {l1 l2 : LT} {is1 is2 : Bool} (h1 : Outc n a arg q m at1 arg1 l1 is1) (h2 : Outc n 0 arg q m2 at2 arg2 l2 is2) (hl : ∀ j, j < a → q (arg j).says = false) :
    m2 = m ∧ at2 = at1 ∧ arg2 = arg1 ∧ l2 = l1 ∧ is2 = is1 := by
  rcases h1 with ⟨i, hai, hin, hlo, hq, rfl, rfl, rfl, rfl, rfl⟩ | ⟨hlo, rfl, rfl, rfl, rfl, rfl⟩
  · rcases h2 with ⟨k, _, hkn, hlo2, hq2, rfl, rfl, rfl, rfl, rfl⟩ | ⟨hlo2, _⟩
    · have : k = i := by
        rcases Nat.lt_trichotomy k i with h | h | h
        · by_cases hka : k < a
          · rw [hl k hka] at hq2; cases hq2
          · rw [hlo k (by omega) h] at hq2; cases hq2
        · exact h
        · rw [hlo2 i (by omega) h] at hq; cases hq
      subst this
      exact ⟨rfl, rfl, rfl, rfl, rfl⟩
    · rw [hlo2 i (by omega) hin] at hq; cases hq
  · rcases h2 with ⟨k, _, hkn, hlo2, hq2, rfl, rfl, rfl, rfl, rfl⟩ | ⟨hlo2, rfl, rfl, rfl, rfl, rfl⟩
    · by_cases hka : k < a
      · rw [hl k hka] at hq2; cases hq2
      · rw [hlo k (by omega) hkn] at hq2; cases hq2
    · exact ⟨rfl, rfl, rfl, rfl, rfl⟩
theorem take_out {n : Nat} {a : Nat} {arg : Nat → LT} {q : VT → Bool} {L : List VT} {row : Option Nat} {I : List VT → World → Prop} {w : World} {e : Ending} {w' : World} (h : TakePost n a arg q L row I w e w') (ok : OkBox n a arg) :
    ∃ (m : Nat) (at' : Int) (arg' : Nat → LT) (l : LT) (is : Bool) (A : Option Addr) (c : Nat) (k2 m2 : Int) (s2 : ByteArray) (A3 : Option Addr) (n3 c3 : Nat),
      e = .returned (.tuple #[.agg #[.slice A m c, .int .i64 at'], .agg #[.int .i64 l.kind, .int .i64 l.frm, .int .i64 l.to, .int .i64 l.num, .string l.text, .int .i64 k2, .int .i64 m2, .string s2, .slice A3 n3 c3], .bool is, .int .i64 0]) ∧ m ≤ c ∧ c ≤ 9223372036854775807 ∧
      RdL w' (fun b => w.heap.size ≤ b) A m arg' ∧ l.isL w' (fun b => w.heap.size ≤ b) [.int .i64 l.kind, .int .i64 l.frm, .int .i64 l.to, .int .i64 l.num, .string l.text, .int .i64 k2, .int .i64 m2, .string s2, .slice A3 n3 c3] ∧ (∃ L', I L' w') ∧ w.grownBy w' row ∧ Outc n a arg q m at' arg' l is := by
  rcases h with ⟨hno, _⟩ | ⟨_, ⟨i, hai, hin, hlo, hq, A, c, xs, rfl, h1, h2, h3, h4, h5, h6⟩ | ⟨hlo, A, c, rfl, h1, h2, h3, h4, h5⟩⟩
  · exact (hno ok).elim
  · obtain ⟨k2, m2, s2, A3, n3, c3, rfl, hv⟩ := id h4
    exact ⟨n - 1, 0, cutA arg i, arg i, true, A, c, k2, m2, s2, A3, n3, c3, rfl, h1, h2, h3, h4, ⟨_, h5⟩, h6, .inl ⟨i, hai, hin, hlo, hq, rfl, rfl, rfl, rfl, rfl⟩⟩
  · refine ⟨n, n, arg, zeroLT, false, A, c, 0, 0, ⟨#[]⟩, none, 0, 0, rfl, h1, h2, h3, ⟨0, 0, ⟨#[]⟩, none, 0, 0, rfl, leaf_V w' _ 0 0⟩, ⟨_, h4⟩, h5, .inr ⟨hlo, rfl, rfl, rfl, rfl, rfl⟩⟩
set_option maxRecDepth 100000 in
set_option maxHeartbeats 8000000 in
theorem pickAgain_go (n c : Nat) (A : Option Addr) (at_ : Int) (arg : Nat → LT) (S : Nat → Prop) (A2 : Option Addr) (n2 c2 : Nat) (T : Nat → Int) (w : World) (hnc : n ≤ c) (hcm : c ≤ 9223372036854775807) (hA : A = none → n = 0) (hR : RdL w S A n arg) (hm : ∀ i, i < n → (arg i).val.many ≤ 4194304)
    (hn2 : n2 ≤ 9223372036854775807) (hI : Rd w 1 (tmC T) A2 n2) :
    Calls Try.prog 4 #[.agg #[.slice A n c, .int .i64 at_], .slice A2 n2 c2] w fun e w' => e = .returned (.bool true) ∧ Below w.heap.size w w' := by
  have HBB := Lib.hid (show ∀ o o', Below w.heap.size w ((w.alloc o).alloc o') from fun o o' => ((Below.refl w.heap.size w).alloc (Nat.le_refl _) _).alloc (by simp) _)
  have HR := Lib.hid hR
  have HM := Lib.hid hm
  have HI := Lib.hid hI
  have HA := Lib.hid hA
  obtain ⟨W0, hW0⟩ : ∃ W0, W0 = (w.alloc (.cells #[.slice A n c, .int .i64 at_] 38)).alloc (.cells #[.slice A2 n2 c2] 39) := ⟨_, rfl⟩
  have HK0 := Lib.hid (show KA W0 w.heap.size A n c at_ A2 n2 c2 by
    rw [hW0]
    constructor
    any_goals simp [go_sem])
  have HB0 := Lib.hid (show Below w.heap.size w W0 by rw [hW0]; exact HBB.out _ _)
  have HZ0 := Lib.hid (show W0.heap.size = w.heap.size + 2 by rw [hW0]; simp)
  have HAG := Lib.hid (show ∀ W, Below (w.heap.size + 2) W0 W → AgI (w.heap.size + 2) (w.heap.size + 1) A2 n2 c2 T W from fun W hb => by
    have h0 : AgI (w.heap.size + 2) (w.heap.size + 1) A2 n2 c2 T W0 := ⟨HK0.out.t0, RdB.of (HI.out.below HB0.out) (by rw [HZ0.out]; exact Nat.le_refl _)⟩
    exact h0.keep (by omega) hb)
  clear hR hm hI hA
  go_enter Try.func4, Try.ntmps4
  go_wp2_with fail
  rw [← hW0]
  clear hW0
  refine (picks_any _).mono ?_
  rintro e w1 ⟨rfl, hb1⟩
  have HX1 := Lib.hid (show Below (w.heap.size + 2) W0 w1 from by rw [← HZ0.out]; exact hb1)
  have HB1 := Lib.hid (HB0.out.trans (hb1.mono HB0.out.size))
  have HK1 := Lib.hid (HK0.out.grown (grown_below (g := none) hb1) (by simp))
  clear hb1
  obtain ⟨p0, p1, t0, sz⟩ := HK1.out
  go_wp2_with fail
  refine (boxCheck_any n c A at_ arg S _ (by omega) (HR.out.below HB1.out)).mono ?_
  rintro e w2 ⟨x, rfl, hx, hb2⟩
  have HX := Lib.hid hx
  have HX2 := Lib.hid (HX1.out.trans (hb2.mono sz))
  have HB2 := Lib.hid (HB1.out.trans (hb2.mono HB1.out.size))
  have HK2 := Lib.hid (HK1.out.grown (grown_below (g := none) hb2) (by simp))
  clear hx hb2 p0 p1 t0 sz
  obtain ⟨p0, p1, t0, sz⟩ := HK2.out
  by_cases hx0 : x = 0
  rotate_left
  · have e0 : (x != 0) = true := by simpa using hx0
    clear hx0
    go_wp2_with fail
    refine (picks_any _).mono ?_
    rintro e w3 ⟨rfl, hb3⟩
    have HB3 := Lib.hid (HB2.out.trans (hb3.mono HB2.out.size))
    clear hb3
    go_wp2_with fail
    go_ret
    exact ⟨rfl, HB3.out⟩
  subst hx0
  have HOK := Lib.hid (HX.out.1 rfl)
  obtain ⟨a, rfl⟩ : ∃ a : Nat, at_ = a := ⟨at_.toNat, by have := HOK.out.2.1; omega⟩
  have hn60 := HOK.out.1
  have han : a ≤ n := by have := HOK.out.2.2.1; omega
  go_wp2_with fail
  refine (notFlat1 n c A arg S _ (by omega) (HR.out.below HB2.out) HM.out).mono ?_
  rintro e w3 ⟨rfl, hb3⟩
  have HX3 := Lib.hid (HX2.out.trans (hb3.mono sz))
  have HB3 := Lib.hid (HB2.out.trans (hb3.mono HB2.out.size))
  have HK3 := Lib.hid (HK2.out.grown (grown_below (g := none) hb3) (by simp))
  clear hb3 p0 p1 t0 sz
  obtain ⟨p0, p1, t0, sz⟩ := HK3.out
  generalize anyOf (fun i => !flatB (arg i).val) n = fl
  cases fl with
  | true =>
    go_wp2_with fail
    refine (picks_any _).mono ?_
    rintro e w4 ⟨rfl, hb4⟩
    have HB4 := Lib.hid (HB3.out.trans (hb4.mono HB3.out.size))
    clear hb4
    go_wp2_with fail
    go_ret
    exact ⟨rfl, HB4.out⟩
  | false =>
    have hac : a ≤ c := by omega
    go_wp2_with fail
    go_loopw [7, 38] (fun _ i wr => ∃ q : Nat, q ≤ a ∧ i = .int .i64 (q : Int) ∧ (∀ j, j < q → wants T n2 (arg j).says = false) ∧ Below (w.heap.size + 2) W0 wr) (fun _ i _ => a - (intOf i).toNat)
    case atStart => exact ⟨0, Nat.zero_le _, rfl, fun j hj => by omega, HX3.out⟩
    case round =>
      obtain ⟨q, hq, rfl, hlow, hX⟩ := hrel
      have HLO := Lib.hid hlow
      have HXr := Lib.hid hX
      have HBr := Lib.hid (HB0.out.trans (hX.mono (by omega)))
      have HKr := Lib.hid (HK0.out.grown (grown_below (g := none) (by rw [HZ0.out]; exact hX)) (by simp))
      have hzr : w.heap.size + 2 ≤ wr.heap.size := by have := hX.size; have := HZ0.out; omega
      clear hlow hX p0 p1 t0 sz
      by_cases hlt : q < a
      · obtain ⟨b, off, rfl, hb, hSb, C, hC⟩ := HR.out (by omega)
        obtain ⟨hL, hcell⟩ := hC q (by omega)
        obtain ⟨k2, m2, s2, A3, n3, c3, hCq, hv3⟩ := id hL
        rw [hCq] at hcell hL
        have x0 : wr.cell? ⟨b, off + q * 9, none⟩ = some (.int .i64 (arg q).kind) := (HBr.out.cell (p := ⟨b, _, none⟩) hb).trans (hcell 0 _ rfl)
        have x1 : wr.cell? ⟨b, off + q * 9 + 1, none⟩ = some (.int .i64 (arg q).frm) := (HBr.out.cell (p := ⟨b, _, none⟩) hb).trans (hcell 1 _ rfl)
        have x2 : wr.cell? ⟨b, off + q * 9 + 2, none⟩ = some (.int .i64 (arg q).to) := (HBr.out.cell (p := ⟨b, _, none⟩) hb).trans (hcell 2 _ rfl)
        have x3 : wr.cell? ⟨b, off + q * 9 + 3, none⟩ = some (.int .i64 (arg q).num) := (HBr.out.cell (p := ⟨b, _, none⟩) hb).trans (hcell 3 _ rfl)
        have x4 : wr.cell? ⟨b, off + q * 9 + 4, none⟩ = some (.string (arg q).text) := (HBr.out.cell (p := ⟨b, _, none⟩) hb).trans (hcell 4 _ rfl)
        have x5 : wr.cell? ⟨b, off + q * 9 + 5, none⟩ = some (.int .i64 k2) := (HBr.out.cell (p := ⟨b, _, none⟩) hb).trans (hcell 5 _ rfl)
        have x6 : wr.cell? ⟨b, off + q * 9 + 6, none⟩ = some (.int .i64 m2) := (HBr.out.cell (p := ⟨b, _, none⟩) hb).trans (hcell 6 _ rfl)
        have x7 : wr.cell? ⟨b, off + q * 9 + 7, none⟩ = some (.string s2) := (HBr.out.cell (p := ⟨b, _, none⟩) hb).trans (hcell 7 _ rfl)
        have x8 : wr.cell? ⟨b, off + q * 9 + 8, none⟩ = some (.slice A3 n3 c3) := (HBr.out.cell (p := ⟨b, _, none⟩) hb).trans (hcell 8 _ rfl)
        have l1 : b < wr.heap.size := by omega
        have j1 : (0 : Int) ≤ (q : Int) := by omega
        have j2 : (q : Int) < (a : Int) := by omega
        have HL := Lib.hid (show ∀ o, (arg q).isL (wr.alloc o) S _ from fun o => isL_frame (by have := HBr.out.size; simp; omega) (fun b' hs hl => ⟨hs, (HBr.out.alloc (by omega) o).block b' hl⟩) hL)
        have HMM := Lib.hid (fun o => msg_any (arg q) _ S (wr.alloc o) (HL.out o) (HM.out q (by omega)))
        clear hC hL hcell hCq hv3
        go_wp2_with fail
        refine (HMM.out _).mono ?_
        rintro e w4 ⟨cs', rfl, hv4, hb4⟩
        obtain ⟨k', m', s', A', n', c', rfl⟩ := isV_cells hv4
        have HX4 := Lib.hid ((HXr.out.alloc (by rw [HZ0.out] at *; omega) _).trans (hb4.mono (by simp; omega)))
        have hz4 : w.heap.size + 2 ≤ w4.heap.size := by have := hb4.size; simp at this; omega
        have HC4 := Lib.hid (ask1_call _ _ _ _ _ _ hn2 (by omega) _ _ _ w4 (HAG.out w4 HX4.out) hv4 hz4)
        have hen := ask1_enters #[.agg #[.int .i64 k', .int .i64 m', .string s', .slice A' n' c'], .pointer (some ⟨w.heap.size + 1, 0, none⟩)] w4
        clear hv4 hb4 x0 x1 x2 x3 x4 x5 x6 x7 x8
        go_wp2_with fail
        refine HC4.out.mono ?_
        rintro e w5 ⟨rfl, hb5⟩
        have HX5 := Lib.hid (HX4.out.trans (hb5.mono hz4))
        obtain ⟨wq, hwq⟩ : ∃ wq, wants T n2 (arg q).says = wq := ⟨_, rfl⟩
        have HWQ := Lib.hid hwq
        rw [hwq]
        clear hb5 hen hwq HC4
        cases wq with
        | true =>
          go_wp2_with fail
          go_ret
          exact ⟨rfl, HB0.out.trans (HX5.out.mono (by omega))⟩
        | false =>
          go_wp2_with fail
          go_roundw
          case rel =>
            refine ⟨q + 1, by omega, by go_num, fun j hj => ?_, HX5.out⟩
            by_cases e : j = q
            · rw [e]; exact HWQ.out
            · exact HLO.out j (by omega)
          case measure => simp [intOf]; omega
      · obtain rfl : q = a := by omega
        obtain ⟨p0, p1, t0, sz⟩ := HKr.out
        go_wp2_with fail
        refine (again_any n c A q arg S wr (by omega) (HR.out.below HBr.out) HM.out HOK.out).mono ?_
        rintro e w5 ⟨A5, c5, rfl, hnc5, hcm5, hR5, hb5⟩
        have HX5 := Lib.hid (HXr.out.trans (hb5.mono hzr))
        have HB5 := Lib.hid (HBr.out.trans (hb5.mono HBr.out.size))
        have HK5 := Lib.hid (HKr.out.grown (grown_below (g := none) hb5) (by simp))
        have hz5 : w.heap.size + 2 ≤ w5.heap.size := by have := hb5.size; omega
        obtain ⟨W5, hW5⟩ : ∃ W5, W5 = w5.alloc (.cells #[.slice A5 n c5, .int .i64 0] 38) := ⟨_, rfl⟩
        have hb55 : Below w5.heap.size w5 W5 := by rw [hW5]; exact (Below.refl _ _).alloc (Nat.le_refl _) _
        have HX5' := Lib.hid (HX5.out.trans (hb55.mono hz5))
        have HB5' := Lib.hid (HB5.out.trans (hb55.mono HB5.out.size))
        have HK5' := Lib.hid (HK5.out.grown (grown_below (g := none) hb55) (by simp))
        have HR5 := Lib.hid (hR5.below hb55)
        have a0 : W5.cell? ⟨w5.heap.size, 0, none⟩ = some (.slice A5 n c5) := by rw [hW5]; simp
        have a1 : W5.cell? ⟨w5.heap.size, 1, none⟩ = some (.int .i64 0) := by rw [hW5]; simp
        have hs5 : W5.heap.size = w5.heap.size + 1 := by rw [hW5]; simp
        have HA0 := Lib.hid a0
        have HA1 := Lib.hid a1
        have HT5 := Lib.hid (take_any n c A q arg S (w.heap.size + 2) 15 #[.pointer (some ⟨w.heap.size + 1, 0, none⟩)] (wants T n2) [] none (fun _ W => AgI (w.heap.size + 2) (w.heap.size + 1) A2 n2 c2 T W) W5 hnc hcm (HR.out.below HB5'.out) HM.out (ask1_ok _ _ A2 n2 c2 T hn2 (by omega)) (HAG.out W5 HX5'.out) (by omega))
        obtain ⟨e0, e1, e2, _⟩ := HK5.out
        have hzs : w.heap.size < w5.heap.size := by omega
        clear hR5 hb5 hb55 p0 p1 t0 sz a0 a1
        go_wp2_with fail
        rw [← hW5]
        clear hW5
        refine HT5.out.mono ?_
        intro e w6 hpost
        obtain ⟨m, at6, arg6, l6, is6, A6, c6, k2, m2, s2, A3, n3, c3, rfl, hmc6, hcm6, hR6, hl6, _, hg6, hout6⟩ := take_out hpost HOK.out
        have HX6 := Lib.hid (below_grown HX5'.out (by omega) hg6 (by simp))
        have HB6 := Lib.hid (below_grown HB5'.out (by omega) hg6 (by simp))
        have HR6 := Lib.hid hR6
        have HL6 := Lib.hid hl6
        have HO6 := Lib.hid hout6
        have b0 := (grown_cell hg6 (b := w5.heap.size) (o := 0) (by omega) (by simp)).trans HA0.out
        have b1 := (grown_cell hg6 (b := w5.heap.size) (o := 1) (by omega) (by simp)).trans HA1.out
        have hz6 : W5.heap.size ≤ w6.heap.size := hg6.size
        have hzs6 : w5.heap.size < w6.heap.size := by omega
        obtain ⟨W7, hW7⟩ : ∃ W7, W7 = (w6.alloc (.cells #[.slice A6 m c6, .int .i64 at6] 38)).alloc (.cells #[.int .i64 l6.kind, .int .i64 l6.frm, .int .i64 l6.to, .int .i64 l6.num, .string l6.text, .int .i64 k2, .int .i64 m2, .string s2, .slice A3 n3 c3] 44) := ⟨_, rfl⟩
        have HKT7 := Lib.hid (show KT W7 w6.heap.size _ _ _ _ _ _ _ _ _ _ _ by rw [hW7]; exact KT.new w6 _ _ _ _ _ _ _ _ _ _ _ _ _)
        have hb67 : Below w6.heap.size w6 W7 := by rw [hW7]; exact ((Below.refl _ _).alloc (Nat.le_refl _) _).alloc (by simp) _
        have hb56 : Below W5.heap.size W5 w6 := below_grown (Below.refl _ _) (Nat.le_refl _) hg6 (by simp)
        have HX7 := Lib.hid (HX6.out.trans (hb67.mono (by omega)))
        have HB7 := Lib.hid (HB6.out.trans (hb67.mono HB6.out.size))
        have HR6' := Lib.hid (HR6.out.below hb67)
        have HL6' := Lib.hid (isL_frame (S' := fun b => W5.heap.size ≤ b) hb67.size (fun b hs hl => ⟨hs, hb67.block b hl⟩) HL6.out)
        have hz7 : w6.heap.size + 2 = W7.heap.size := by rw [hW7]; simp
        have HT7 := Lib.hid (take_any n c5 A5 0 arg _ (w.heap.size + 2) 15 #[.pointer (some ⟨w.heap.size + 1, 0, none⟩)] (wants T n2) [] none (fun _ W => AgI (w.heap.size + 2) (w.heap.size + 1) A2 n2 c2 T W) W7 hnc5 hcm5 ((HR5.out.below hb56).below hb67) HM.out (ask1_ok _ _ A2 n2 c2 T hn2 (by omega)) (HAG.out W7 HX7.out) (by omega))
        clear hpost hR6 hl6 hg6 hout6 hb67 hb56 e0 e1 e2
        go_wp2_with fail
        rw [← hW7]
        clear hW7
        refine HT7.out.mono ?_
        intro e w8 hpost
        obtain ⟨m', at8, arg8, l8, is8, A8, c8, k4, m4, s4, A9, n9, c9, rfl, hmc8, hcm8, hR8, hl8, _, hg8, hout8⟩ := take_out hpost (show OkBox n (0 : Nat) arg from ⟨HOK.out.1, by omega, by omega, HOK.out.2.2.2⟩)
        obtain ⟨rfl, rfl, rfl, rfl, rfl⟩ := outc_same HO6.out hout8 HLO.out
        have HR8 := Lib.hid hR8
        have HL8 := Lib.hid hl8
        have hb78 : Below W7.heap.size W7 w8 := below_grown (Below.refl _ _) (Nat.le_refl _) hg8 (by simp)
        obtain ⟨W9, hW9⟩ : ∃ W9, W9 = ((w8.alloc (.cells #[.slice A8 m' c8, .int .i64 at8] 38)).alloc (.cells #[.int .i64 l8.kind, .int .i64 l8.frm, .int .i64 l8.to, .int .i64 l8.num, .string l8.text, .int .i64 k4, .int .i64 m4, .string s4, .slice A9 n9 c9] 44)).alloc (.cells #[.int .i64 0, .int .i64 0, .int .i64 0] 40) := ⟨_, rfl⟩
        have hb89 : Below w8.heap.size w8 W9 := by rw [hW9]; exact (((Below.refl _ _).alloc (Nat.le_refl _) _).alloc (by simp) _).alloc (by simp; omega) _
        have hs9 : w8.heap.size + 3 = W9.heap.size := by rw [hW9]; simp
        have HKT9 := Lib.hid ((HKT7.out.grown hg8 (by simp)).grown (grown_below (g := none) hb89) (by simp))
        have HKT8 := Lib.hid (show KT W9 w8.heap.size _ _ _ _ _ _ _ _ _ _ _ by rw [hW9]; exact (KT.new w8 _ _ _ _ _ _ _ _ _ _ _ _ _).grown (World.grownBy_alloc _ _ none) (by simp))
        have i0 : W9.cell? ⟨w8.heap.size + 2, 0, none⟩ = some (.int .i64 0) := by rw [hW9]; simp [go_sem]
        have i1 : W9.cell? ⟨w8.heap.size + 2, 1, none⟩ = some (.int .i64 0) := by rw [hW9]; simp [go_sem]
        have i2 : W9.cell? ⟨w8.heap.size + 2, 2, none⟩ = some (.int .i64 0) := by rw [hW9]; simp [go_sem]
        have HB8 := Lib.hid (HB7.out.trans (hb78.mono HB7.out.size))
        have HB9 := Lib.hid (HB8.out.trans (hb89.mono HB8.out.size))
        have HRA := Lib.hid ((HR6'.out.below hb78).below hb89)
        have HRB := Lib.hid (HR8.out.below hb89)
        have HLA := Lib.hid (isL_frame (S' := fun b => W5.heap.size ≤ b) hb89.size (fun b hs hl => ⟨hs, hb89.block b hl⟩) (isL_frame (S' := fun b => W5.heap.size ≤ b) hb78.size (fun b hs hl => ⟨hs, hb78.block b hl⟩) HL6'.out))
        have HLB := Lib.hid (isL_frame (S' := fun b => W7.heap.size ≤ b) hb89.size (fun b hs hl => ⟨hs, hb89.block b hl⟩) HL8.out)
        have HG9 := Lib.hid (good_three 0 0 0 W9 3 (w8.heap.size + 2) i0 i1 i2)
        have hm' : m' ≤ 9223372036854775807 := by omega
        clear hpost hR8 hl8 hg8 hout8 hb78 hb89 i0 i1 i2
        go_wp2_with fail
        rw [← hW9]
        clear hW9
        refine HG9.out.mono ?_
        rintro e w10 ⟨rfl, rfl⟩
        obtain ⟨p0, p1, y0, y1, y2, y3, y4, y5, y6, y7, y8, psz⟩ := HKT9.out
        obtain ⟨p0', p1', y0', y1', y2', y3', y4', y5', y6', y7', y8', psz'⟩ := HKT8.out
        have er : (is8 == is8) = true := by simp
        have HSL := Lib.hid (sameL_any l8 l8 _ _ _ _ W9 HLA.out HLB.out)
        have HRF := Lib.hid (sameLB_refl HLA.out)
        go_wp2_with fail
        refine HSL.out.mono ?_
        rintro e w11 ⟨rfl, hb11⟩
        have HB11 := Lib.hid (HB9.out.trans (hb11.mono HB9.out.size))
        have HKT9' := Lib.hid (HKT9.out.grown (grown_below (g := none) hb11) (by simp))
        have HKT8' := Lib.hid (HKT8.out.grown (grown_below (g := none) hb11) (by simp))
        have HSB := Lib.hid (sameBox_any m' m' c6 c8 A6 A8 at8 at8 arg8 arg8 _ _ w11 hm' hm' (HRA.out.below hb11) (HRB.out.below hb11))
        have HTR := Lib.hid (show sameBB m' at8 arg8 m' at8 arg8 = true from by
          unfold sameBB
          simp only [beq_self_eq_true, Bool.true_and]
          rw [allTo_true]
          intro i hi
          obtain ⟨_, _, _, _, _, C, hC⟩ := HRB.out (by omega)
          exact sameLB_refl (hC i hi).1)
        clear hb11 p0 p1 y0 y1 y2 y3 y4 y5 y6 y7 y8 psz p0' p1' y0' y1' y2' y3' y4' y5' y6' y7' y8' psz'
        obtain ⟨p0, p1, y0, y1, y2, y3, y4, y5, y6, y7, y8, psz⟩ := HKT9'.out
        obtain ⟨p0', p1', y0', y1', y2', y3', y4', y5', y6', y7', y8', psz'⟩ := HKT8'.out
        rw [HRF.out]
        go_wp2_with fail
        refine HSB.out.mono ?_
        rintro e w12 ⟨rfl, hb12⟩
        have HB12 := Lib.hid (HB11.out.trans (hb12.mono HB11.out.size))
        rw [HTR.out]
        clear hb12
        go_wp2_with fail
        go_ret
        exact ⟨rfl, HB12.out⟩
theorem pickAgain_walk {H : Type} {enc : TypeId × Value → H} (W : World) (base : Nat) (v0 v1 : Value) {d0 d1 : DataW H} {p0 p1 : List MemPlace}
    (k0 : Value.okWide Try.prog W .any base 38 v0) (k1 : Value.okWide Try.prog W .any base 39 v1)
    (h0 : DataW.Trod enc Try.prog W 0 (fun _ => true) true 38 v0 d0 p0) (h1 : DataW.Trod enc Try.prog W 0 (fun _ => true) true 39 v1 d1 p1) (hk : Rows.uptoSmall H [d0, d1] = true) :
    Calls Try.prog 4 #[v0, v1] W fun e W' => e = .returned (.bool true) ∧ Below W.heap.size W W' := by
  obtain ⟨b0, b1⟩ := bulk_two hk
  obtain ⟨A, n, c, at_, arg, rfl, hnc, hcm, hA, hR, hm⟩ := open_box k0 h0
  obtain ⟨A2, n2, c2, T, rfl, hnc2, hcm2, _, hI, _⟩ := open_intsW k1 h1
  exact pickAgain_go n c A at_ arg _ A2 n2 c2 T W hnc hcm hA hR (fun i hi => by have := hm i hi; omega) (by omega) hI
end Go.Proofs.Ytjalgnpbdcefdaa
