/- heap.read. -/
import Derived.Test.YtkdbnkkdohkhjaaHeapRound
import Derived.Deep.DeepCutAuto
import Derived.Laws.MakeOwn
import Derived.Laws.IdiomStrings
namespace Go.Proofs.Ytkdbnkkdohkhjaa
open Go.RowKit
set_option linter.unusedVariables false
def ReadBad (h : List Nat) (at_ : Int) (w : World) (e : Ending) (w' : World) : Prop := ∃ x : Int, x ≠ 0 ∧ e = .returned (.tuple #[.agg #[.int .i64 0, .int .i64 0, .int .i64 0, .string ⟨#[]⟩, .slice none 0 0], .int .i64 0, .int .i64 x]) ∧ Below w.heap.size w w' ∧ x = errA h at_
def ReadGood (h : List Nat) (a : Nat) (w : World) (e : Ending) (w' : World) : Prop := ∃ pA pc, e = .returned (.tuple #[.agg #[.int .i64 (a : Int), .int .i64 (kdR h a : Nat), .int .i64 (nmR h a), .string (txR h a), .slice pA (paR h a).length pc], .int .i64 ((wordsO (obR h a)).length : Nat), .int .i64 0]) ∧
  OwnU w' w.heap.size (.slice pA (paR h a).length pc) (paR h a) ∧ Below w.heap.size w w'
def ReadPost (h : List Nat) (at_ : Int) (w : World) (e : Ending) (w' : World) : Prop := (∃ a : Nat, at_ = a ∧ ReadsOb h a ∧ ReadGood h a w e w') ∨ (¬ (∃ a : Nat, at_ = a ∧ ReadsOb h a) ∧ ReadBad h at_ w e w')
/-- the two boxes of a call of read: the answer's, still empty, and the object's -/
structure RB (w wx : World) (a kd nm : Int) (t : ByteArray) (pv : Value) : Prop where
  a0 : wx.cell? ⟨w.heap.size, 0, none⟩ = some (.int .i64 0)
  a1 : wx.cell? ⟨w.heap.size, 1, none⟩ = some (.int .i64 0)
  a2 : wx.cell? ⟨w.heap.size, 2, none⟩ = some (.int .i64 0)
  a3 : wx.cell? ⟨w.heap.size, 3, none⟩ = some (.string ⟨#[]⟩)
  a4 : wx.cell? ⟨w.heap.size, 4, none⟩ = some (.slice none 0 0)
  r0 : wx.cell? ⟨w.heap.size + 1, 0, none⟩ = some (.int .i64 a)
  r1 : wx.cell? ⟨w.heap.size + 1, 1, none⟩ = some (.int .i64 kd)
  r2 : wx.cell? ⟨w.heap.size + 1, 2, none⟩ = some (.int .i64 nm)
  r3 : wx.cell? ⟨w.heap.size + 1, 3, none⟩ = some (.string t)
  r4 : wx.cell? ⟨w.heap.size + 1, 4, none⟩ = some pv
  fa : ∀ o, wx.frozen? ⟨w.heap.size, o, none⟩ = false
  fr : ∀ o, wx.frozen? ⟨w.heap.size + 1, o, none⟩ = false
  hz : w.heap.size + 1 < wx.heap.size
  hB : Below w.heap.size w wx
theorem RB.grown {w wx wy : World} {a kd nm : Int} {t : ByteArray} {pv : Value} {row : Option Nat} (h : RB w wx a kd nm t pv) (hg : wx.grownBy wy row) (hr : ∀ g, row = some g → w.heap.size + 2 ≤ g) : RB w wy a kd nm t pv := by
  have hs := h.hz
  have k0 : ∀ o, wy.cell? ⟨w.heap.size, o, none⟩ = wx.cell? ⟨w.heap.size, o, none⟩ := fun o => grown_cell hg (by omega) (fun e => by have := hr _ e.symm; omega)
  have k1 : ∀ o, wy.cell? ⟨w.heap.size + 1, o, none⟩ = wx.cell? ⟨w.heap.size + 1, o, none⟩ := fun o => grown_cell hg (by omega) (fun e => by have := hr _ e.symm; omega)
  have k2 : ∀ o, wy.frozen? ⟨w.heap.size, o, none⟩ = wx.frozen? ⟨w.heap.size, o, none⟩ := fun o => grown_frozen hg (by omega) (fun e => by have := hr _ e.symm; omega)
  have k3 : ∀ o, wy.frozen? ⟨w.heap.size + 1, o, none⟩ = wx.frozen? ⟨w.heap.size + 1, o, none⟩ := fun o => grown_frozen hg (by omega) (fun e => by have := hr _ e.symm; omega)
  exact ⟨(k0 _).trans h.a0, (k0 _).trans h.a1, (k0 _).trans h.a2, (k0 _).trans h.a3, (k0 _).trans h.a4, (k1 _).trans h.r0, (k1 _).trans h.r1, (k1 _).trans h.r2, (k1 _).trans h.r3, (k1 _).trans h.r4,
    fun o => (k2 o).trans (h.fa o), fun o => (k3 o).trans (h.fr o), by have := hg.size; omega, below_grown h.hB h.hB.size hg (fun g hg' => by have := hr g hg'; omega)⟩
theorem RB.below {w wx wy : World} {a kd nm : Int} {t : ByteArray} {pv : Value} (h : RB w wx a kd nm t pv) (hb : Below wx.heap.size wx wy) : RB w wy a kd nm t pv := h.grown (grown_below (g := none) hb) (fun g hg => by cases hg)
theorem RB.new (w : World) (a kd nm : Int) (t : ByteArray) (pA : Option Addr) (pl pc : Nat) : RB w ((w.alloc (.cells #[.int .i64 0, .int .i64 0, .int .i64 0, .string ⟨#[]⟩, .slice none 0 0] 33)).alloc (.cells #[.int .i64 a, .int .i64 kd, .int .i64 nm, .string t, .slice pA pl pc] 33)) a kd nm t (.slice pA pl pc) := by
  constructor
  any_goals (first | simp [go_sem] | (intro o; simp [go_sem]))
  exact ((Below.refl _ _).alloc (Nat.le_refl _) _).alloc (by simp) _
theorem RB.text {w wx : World} {a kd nm : Int} {t : ByteArray} {pv : Value} (h : RB w wx a kd nm t pv) (s : ByteArray) : RB w (wx.setCell ⟨w.heap.size + 1, 3, none⟩ (.string s)) a kd nm s pv := by
  have x3 : (wx.cell? ⟨w.heap.size + 1, 3, none⟩).isSome = true := by rw [h.r3]; rfl
  constructor
  · simp [go_sem, h.a0]
  · simp [go_sem, h.a1]
  · simp [go_sem, h.a2]
  · simp [go_sem, h.a3]
  · simp [go_sem, h.a4]
  · simp [go_sem, h.r0]
  · simp [go_sem, h.r1]
  · simp [go_sem, h.r2]
  · simp [go_sem, x3]
  · simp [go_sem, h.r4]
  · intro o; simp [go_sem, h.fa]
  · intro o; simp [go_sem, h.fr]
  · simpa using h.hz
  · exact below_set h.hB (by omega)
theorem RB.parts {w wx : World} {a kd nm : Int} {t : ByteArray} {pv : Value} (h : RB w wx a kd nm t pv) (u : Value) : RB w (wx.setCell ⟨w.heap.size + 1, 4, none⟩ u) a kd nm t u := by
  have x4 : (wx.cell? ⟨w.heap.size + 1, 4, none⟩).isSome = true := by rw [h.r4]; rfl
  constructor
  · simp [go_sem, h.a0]
  · simp [go_sem, h.a1]
  · simp [go_sem, h.a2]
  · simp [go_sem, h.a3]
  · simp [go_sem, h.a4]
  · simp [go_sem, h.r0]
  · simp [go_sem, h.r1]
  · simp [go_sem, h.r2]
  · simp [go_sem, h.r3]
  · simp [go_sem, x4]
  · intro o; simp [go_sem, h.fa]
  · intro o; simp [go_sem, h.fr]
  · simpa using h.hz
  · exact below_set h.hB (by omega)
def put5 (wx : World) (b : Nat) (u0 u1 u2 u3 u4 : Value) : World := ((((wx.setCell ⟨b, 0, none⟩ u0).setCell ⟨b, 1, none⟩ u1).setCell ⟨b, 2, none⟩ u2).setCell ⟨b, 3, none⟩ u3).setCell ⟨b, 4, none⟩ u4
theorem RB.ret {w wx : World} {a kd nm : Int} {t : ByteArray} {pv : Value} (h : RB w wx a kd nm t pv) (u0 u1 u2 u3 u4 : Value) :
    (put5 wx w.heap.size u0 u1 u2 u3 u4).cell? ⟨w.heap.size, 0, none⟩ = some u0 ∧ (put5 wx w.heap.size u0 u1 u2 u3 u4).cell? ⟨w.heap.size, 1, none⟩ = some u1 ∧ (put5 wx w.heap.size u0 u1 u2 u3 u4).cell? ⟨w.heap.size, 2, none⟩ = some u2 ∧ (put5 wx w.heap.size u0 u1 u2 u3 u4).cell? ⟨w.heap.size, 3, none⟩ = some u3 ∧ (put5 wx w.heap.size u0 u1 u2 u3 u4).cell? ⟨w.heap.size, 4, none⟩ = some u4 ∧ Below w.heap.size w (put5 wx w.heap.size u0 u1 u2 u3 u4) ∧ wx.grownBy (put5 wx w.heap.size u0 u1 u2 u3 u4) (some w.heap.size) := by
  have x0 : (wx.cell? ⟨w.heap.size, 0, none⟩).isSome = true := by rw [h.a0]; rfl
  have x1 : (wx.cell? ⟨w.heap.size, 1, none⟩).isSome = true := by rw [h.a1]; rfl
  have x2 : (wx.cell? ⟨w.heap.size, 2, none⟩).isSome = true := by rw [h.a2]; rfl
  have x3 : (wx.cell? ⟨w.heap.size, 3, none⟩).isSome = true := by rw [h.a3]; rfl
  have x4 : (wx.cell? ⟨w.heap.size, 4, none⟩).isSome = true := by rw [h.a4]; rfl
  unfold put5
  refine ⟨?_, ?_, ?_, ?_, ?_, ?_, ?_⟩
  · simp [go_sem, x0]
  · simp [go_sem, x1]
  · simp [go_sem, x2]
  · simp [go_sem, x3]
  · simp [go_sem, x4]
  · exact below_set (below_set (below_set (below_set (below_set h.hB (Nat.le_refl _)) (Nat.le_refl _)) (Nat.le_refl _)) (Nat.le_refl _)) (Nat.le_refl _)
  · exact grown_set (grown_set (grown_set (grown_set (grown_set (grown_self _ _) _) _) _) _) _
theorem read_results {tmps : Array Value} {wz : World} {H : Nat} {u0 u1 u2 u3 u4 v5 v6 : Value} (t4 : tmps.getD 4 undef = .pointer (some ⟨H, 0, none⟩)) (t5 : tmps.getD 5 undef = v5) (t6 : tmps.getD 6 undef = v6)
    (z0 : wz.cell? ⟨H, 0, none⟩ = some u0) (z1 : wz.cell? ⟨H, 1, none⟩ = some u1) (z2 : wz.cell? ⟨H, 2, none⟩ = some u2) (z3 : wz.cell? ⟨H, 3, none⟩ = some u3) (z4 : wz.cell? ⟨H, 4, none⟩ = some u4) :
    (results Try.f41 tmps).run Try.prog wz = .ok (.tuple #[.agg #[u0, u1, u2, u3, u4], v5, v6]) wz := by
  simp only [Array.getD_eq_getD_getElem?] at t4 t5 t6
  simp [results, Try.results41, go_sem, t4, t5, t6, z0, z1, z2, z3, z4]
theorem info8 : (Try.prog.info? 5).map (fun i => (i.zero, i.size, i.bytes)) = some (some (.int .u8 0), 1, 1) := by kernel_rfl
theorem wrap_small (x : Nat) (h : x < 17592186044416) : wrap64 (x : Int) = (x : Int) := by unfold wrap64; omega
structure RestOk (w wx : World) (h : List Nat) (a : Nat) (x : Value) : Prop where
  rs : ∃ XR rc, x = .slice XR (restR h a).length rc ∧ Su w (.slice XR (restR h a).length rc) (restR h a)
  rb : RB w wx a (kdR h a : Nat) (nmR h a) ⟨#[]⟩ (.slice none 0 0)
structure PartsOk (w wx : World) (h : List Nat) (a : Nat) : Prop where
  out : ∃ pA pc, RB w wx a (kdR h a : Nat) (nmR h a) (txR h a) (.slice pA (paR h a).length pc) ∧ OwnU wx (w.heap.size + 2) (.slice pA (paR h a).length pc) (paR h a)
theorem OwnU.put5 {wx : World} {base b : Nat} {v : Value} {l : List Nat} (h : OwnU wx base v l) (hb : b < base) (u0 u1 u2 u3 u4 : Value) : OwnU (put5 wx b u0 u1 u2 u3 u4) base v l := own_set (own_set (own_set (own_set (own_set h hb) hb) hb) hb) hb
def segR (h : List Nat) (a n : Nat) : List Nat := (h.drop a).take n
set_option maxHeartbeats 8000000 in
set_option maxRecDepth 100000 in
theorem read_any (h : List Nat) (hA : Option Addr) (hc : Nat) (at_ : Int) (w : World) (hH : Su w (.slice hA h.length hc) h) (h64 : All64 h) (hlen : h.length ≤ 17592186044416) :
    Calls Try.prog 41 #[.slice hA h.length hc, .int .i64 at_] w (ReadPost h at_ w) := by
  have HH := Lib.hid hH
  have H64 := Lib.hid h64
  clear hH h64
  have bad0 : ∀ w' : World, Below w.heap.size w w' → ¬ (∃ a : Nat, at_ = a ∧ ReadsOb h a) → ∀ x : Int, x = errA h at_ → ReadPost h at_ w (.returned (.tuple #[.agg #[.int .i64 0, .int .i64 0, .int .i64 0, .string ⟨#[]⟩, .slice none 0 0], .int .i64 0, .int .i64 x])) w' := fun w' hb hno x hx => .inr ⟨hno, x, by rw [hx]; exact errA_ne _ _, rfl, hb, hx⟩
  have BAD := Lib.hid bad0
  clear bad0
  by_cases h0 : at_ < 0
  · have d0 : decide (at_ < 0) = true := by simpa using h0
    go_enter Try.func41, Try.ntmps41
    go_wp2_with fail
    refine bodyPost_ret (v := .tuple #[.agg #[.int .i64 0, .int .i64 0, .int .i64 0, .string ⟨#[]⟩, .slice none 0 0], .int .i64 0, .int .i64 4]) (by simp [results, Try.results41, go_sem]) rfl (BAD.out _ ?_ ?_ 4 (by unfold errA; rw [if_neg (by omega)]))
    · exact (Below.refl _ _).alloc (Nat.le_refl _) _
    · rintro ⟨a, rfl, _⟩; omega
  have d0 : decide (at_ < 0) = false := by simpa using h0
  obtain ⟨a, rfl⟩ : ∃ a : Nat, at_ = a := ⟨at_.toNat, by omega⟩
  clear h0
  by_cases h1 : h.length ≤ a
  · have d1 : decide ((h.length : Int) ≤ (a : Int)) = true := by simp; omega
    go_enter Try.func41, Try.ntmps41
    go_wp2_with fail
    refine bodyPost_ret (v := .tuple #[.agg #[.int .i64 0, .int .i64 0, .int .i64 0, .string ⟨#[]⟩, .slice none 0 0], .int .i64 0, .int .i64 4]) (by simp [results, Try.results41, go_sem]) rfl (BAD.out _ ?_ ?_ 4 (by unfold errA; rw [if_neg (by omega)]))
    · exact (Below.refl _ _).alloc (Nat.le_refl _) _
    · rintro ⟨b, hb, h2, _⟩; omega
  have d1 : decide ((h.length : Int) ≤ (a : Int)) = false := by simp; omega
  obtain ⟨A0, c0', e, n1, n2, n3, n4⟩ := HH.out
  injection e with e1 _ e3
  subst e1 e3
  obtain ⟨bk, off, rfl, hbk, hcell⟩ := n4 (by omega)
  have hcell0 := hcell
  have c0 : w.cell? ⟨bk, off + a, none⟩ = some (.int .u64 ((nth h a : Nat) : Int)) := by simpa using hcell a (by omega) 0 _ rfl
  have hx := H64.out.nth a
  have b1 : bits .and .u64 ((nth h a : Nat) : Int) 255 = ((kdR h a : Nat) : Int) := and255 hx
  have b2 : bits .and .u64 (((nth h a : Nat) : Int) / 256) 4095 = ((tbR h a : Nat) : Int) := by
    have := and4095 (x := nth h a / 256) (by omega)
    rw [show ((nth h a : Nat) : Int) / 256 = ((nth h a / 256 : Nat) : Int) by omega]
    exact this
  have b3 : ((nth h a : Nat) : Int) / 1048576 = ((plR h a : Nat) : Int) := by unfold plR; omega
  have b4 : (kdR h a) < 256 := by unfold kdR; omega
  have b5 : (tbR h a) < 4096 := by unfold tbR; omega
  have b6 : (plR h a) < 17592186044416 := by unfold plR; omega
  have j0 : (0 : Int) ≤ (a : Int) := by omega
  have j1 : (a : Int) < (h.length : Int) := by omega
  clear hcell n3 n4
  have HCELL := Lib.hid (show ∀ k, k < h.length → w.cell? ⟨bk, off + k, none⟩ = some (.int .u64 ((nth h k : Nat) : Int)) from fun k hk => by simpa using hcell0 k hk 0 _ rfl)
  clear hcell0
  go_enter Try.func41, Try.ntmps41
  obtain ⟨XA, hcut, hSA⟩ := cut_from (some ⟨bk, off, none⟩) hc h w HH.out (a + 1) (by omega)
  have hcut1 : ∀ w, (Instr.sliceAt 23 (.slice (some ⟨bk, off, none⟩) h.length hc) (some (.int .i64 ((a : Int) + 1))) none none).run Try.prog w = .ok (.slice XA (h.length - (a + 1)) (hc - (a + 1))) w := fun w => by
    have h := hcut w
    rw [show ((a + 1 : Nat) : Int) = (a : Int) + 1 by omega] at h
    exact h
  have HSA := Lib.hid hSA
  clear hcut hSA
  go_upto_region 7 with (fail)
  clear c0 hcut1
  have hk1 : (k1R h a = 1 ∧ hasN (kdR h a : Nat) = true ∧ a + 1 < h.length) ∨ (k1R h a = 0 ∧ ¬ (hasN (kdR h a : Nat) = true ∧ a + 1 < h.length)) := by
    unfold k1R
    by_cases hh : hasN (kdR h a : Nat) = true ∧ a + 1 < h.length
    · rw [if_pos hh]; exact .inl ⟨rfl, hh⟩
    · rw [if_neg hh]; exact .inr ⟨rfl, hh⟩
  have HK1 := Lib.hid hk1
  clear hk1
  go_cut [51] (fun x wx => x = .bool (k1R h a == 1) ∧ wx = ((w.alloc (.cells #[.int .i64 0, .int .i64 0, .int .i64 0, .string ⟨#[]⟩, .slice none 0 0] 33)).alloc (.cells #[.int .i64 a, .int .i64 (kdR h a : Nat), .int .i64 0, .string ⟨#[]⟩, .slice none 0 0] 33)))
  case first =>
    rcases HK1.out with ⟨hk, hn, hlt⟩ | ⟨hk, hno⟩
    · have HK := Lib.hid hk
      have HN := Lib.hid hn
      have g2 : decide ((0 : Int) < ((h.length - (a + 1) : Nat) : Int)) = true := by simp; omega
      have g3 : decide (0 < h.length - (a + 1)) = true := by simp; omega
      clear hk hn
      go_wp2_with fail
      refine (hasNum_any _ _).mono ?_
      rintro e w' ⟨rfl, rfl⟩
      rw [HN.out]
      go_wp2_with fail
      go_meet
      exact ⟨by rw [HK.out]; rfl, rfl⟩
    · have HK := Lib.hid hk
      cases hn : hasN (kdR h a : Nat) with
      | false =>
        have HN := Lib.hid hn
        clear hk hno hn
        go_wp2_with fail
        refine (hasNum_any _ _).mono ?_
        rintro e w' ⟨rfl, rfl⟩
        rw [HN.out]
        go_wp2_with fail
        go_meet
        exact ⟨by rw [HK.out]; rfl, rfl⟩
      | true =>
        have HN := Lib.hid hn
        have hle : h.length ≤ a + 1 := by
          rcases Nat.lt_or_ge (a + 1) h.length with h2 | h2
          · exact absurd ⟨hn, h2⟩ hno
          · exact h2
        have g2 : decide ((0 : Int) < ((h.length - (a + 1) : Nat) : Int)) = false := by simp; omega
        have g3 : decide (0 < h.length - (a + 1)) = false := by simp; omega
        clear hk hno hn hle
        go_wp2_with fail
        refine (hasNum_any _ _).mono ?_
        rintro e w' ⟨rfl, rfl⟩
        rw [HN.out]
        go_wp2_with fail
        go_meet
        exact ⟨by rw [HK.out]; rfl, rfl⟩
  case rest =>
  obtain ⟨hx7, hw7⟩ := hcut
  subst hx7 hw7
  go_upto_if 51 with (fail)
  go_cut [11] (fun x wx => RestOk w wx h a x)
  case first =>
    rcases HK1.out with ⟨hk1, hnum⟩ | ⟨hk1, hnum⟩
    · have hnm : nmR h a = wrap64 (nth h (a + 1) : Nat) := by unfold nmR; rw [if_pos hnum]
      have hl0 : (h.drop (a + 1)).length = h.length - (a + 1) := by simp
      have hlt := hnum.2
      obtain ⟨X0, c1', e, m1, m2, m3, m4⟩ := HSA.out
      injection e with e1 _ e3
      obtain ⟨bk2, off2, hXA, hbk2, hc2⟩ := m4 (by omega)
      rw [hXA] at e1
      subst e1 e3
      have c1 : w.cell? ⟨bk2, off2, none⟩ = some (.int .u64 ((nth h (a + 1) : Nat) : Int)) := by
        have := hc2 0 (by omega) 0 _ rfl
        rw [nth_drop] at this
        simpa using this
      obtain ⟨XB, hcutB, hSB⟩ := cut_from (some ⟨bk2, off2, none⟩) (hc - (a + 1)) (h.drop (a + 1)) w HSA.out 1 (by omega)
      rw [hl0] at hcutB
      have hcutB1 : ∀ w, (Instr.sliceAt 23 (.slice (some ⟨bk2, off2, none⟩) (h.length - (a + 1)) (hc - (a + 1))) (some (.int .i64 1)) none none).run Try.prog w = .ok (.slice XB (h.length - (a + 1) - 1) (hc - (a + 1) - 1)) w := hcutB
      have hre : restR h a = (h.drop (a + 1)).drop 1 := by unfold restR; rw [hk1, List.drop_drop]
      have hrl : (restR h a).length = h.length - (a + 1) - 1 := by rw [hre, List.length_drop, hl0]
      have HRS := Lib.hid (show Su w (.slice XB (restR h a).length (hc - (a + 1) - 1)) (restR h a) by rw [hre]; exact hSB)
      have HRL := Lib.hid hrl
      have HNM := Lib.hid hnm
      have g1 : (0 : Int) < ((h.length - (a + 1) : Nat) : Int) := by omega
      have e51 : (k1R h a == 1) = true := by rw [hk1]; rfl
      clear hcutB hSB hre hrl hnm hk1 hc2 m1 m2 m3 m4 hnum hl0 hXA
      go_wp2_with fail
      go_meet
      refine ⟨⟨XB, _, by rw [HRL.out], HRS.out⟩, ?_⟩
      rw [HNM.out]
      exact RB.new w a (kdR h a : Nat) (wrap64 (nth h (a + 1) : Nat)) ⟨#[]⟩ none 0 0
    · have hnm : nmR h a = 0 := by unfold nmR; rw [if_neg hnum]
      have hre : restR h a = h.drop (a + 1) := by unfold restR; rw [hk1]
      have hrl : (restR h a).length = h.length - (a + 1) := by rw [hre, List.length_drop]
      have HRS := Lib.hid (show Su w (.slice XA (restR h a).length (hc - (a + 1))) (restR h a) by rw [hre]; exact HSA.out)
      have HRL := Lib.hid hrl
      have HNM := Lib.hid hnm
      have e51 : (k1R h a == 1) = false := by rw [hk1]; rfl
      clear hre hrl hnm hk1 hnum
      go_wp2_with fail
      go_meet
      refine ⟨⟨XA, _, by rw [HRL.out], HRS.out⟩, ?_⟩
      rw [HNM.out]
      exact RB.new w a (kdR h a : Nat) 0 ⟨#[]⟩ none 0 0
  case rest =>
  obtain ⟨⟨XR, rc, rfl, hSR⟩, hRB⟩ := hcut
  obtain ⟨w1, hw1⟩ : ∃ w1 : World, w1 = wc := ⟨_, rfl⟩
  subst hw1
  have HSR := Lib.hid hSR
  have HRB := Lib.hid hRB
  clear b1 b2 b3 hx
  have N7 := Lib.hid (show (((tbR h a : Nat) : Int) + 7) / 8 = ((n8R h a : Nat) : Int) by unfold n8R; omega)
  have N8 := Lib.hid (wrap_small (plR h a) (by omega))
  have n9 : n8R h a ≤ 600 := by unfold n8R; omega
  have hrlen : (restR h a).length ≤ 9223372036854775807 := by unfold restR; simp; omega
  obtain ⟨a0, a1, a2, a3, a4, r0, r1, r2, r3, r4, fa, fr, hz, hB⟩ := hRB
  clear hSR
  have nok : ∀ x : Int, x = 3 → ¬ ReadsOb h a → ∀ wx : World, Below w.heap.size w wx → ReadPost h a w (.returned (.tuple #[.agg #[.int .i64 0, .int .i64 0, .int .i64 0, .string ⟨#[]⟩, .slice none 0 0], .int .i64 0, .int .i64 x])) wx := fun x hx hno wx hb => BAD.out wx hb (fun ⟨b, hb2, h2⟩ => hno (by rw [show a = b by omega]; exact h2)) x (by rw [hx, errA_in (by omega)])
  have NOK := Lib.hid nok
  clear nok
  by_cases t1 : 64 < tbR h a
  · have d2 : decide ((64 : Int) < ((tbR h a : Nat) : Int)) = true := decide_eq_true (by omega)
    go_wp2_with fail
    obtain ⟨z0, z1, z2, z3, z4, zb, _⟩ := HRB.out.ret (.int .i64 0) (.int .i64 0) (.int .i64 0) (.string ⟨#[]⟩) (.slice none 0 0)
    refine bodyPost_ret (read_results (H := w.heap.size) (v5 := .int .i64 0) (v6 := .int .i64 3) rfl rfl rfl z0 z1 z2 z3 z4) rfl ?_
    exact NOK.out 3 rfl (fun hh => Nat.not_le_of_gt t1 hh.2.1.1) _ zb
  have d2 : decide ((64 : Int) < ((tbR h a : Nat) : Int)) = false := decide_eq_false (by omega)
  by_cases t2 : 400 < plR h a
  · have d3 : decide ((400 : Int) < ((plR h a : Nat) : Int)) = true := decide_eq_true (by omega)
    go_wp2_with fail
    obtain ⟨z0, z1, z2, z3, z4, zb, _⟩ := HRB.out.ret (.int .i64 0) (.int .i64 0) (.int .i64 0) (.string ⟨#[]⟩) (.slice none 0 0)
    refine bodyPost_ret (read_results (H := w.heap.size) (v5 := .int .i64 0) (v6 := .int .i64 3) rfl rfl rfl z0 z1 z2 z3 z4) rfl ?_
    exact NOK.out 3 rfl (fun hh => Nat.not_le_of_gt t2 hh.2.1.2.1) _ zb
  have d3 : decide ((400 : Int) < ((plR h a : Nat) : Int)) = false := decide_eq_false (by omega)
  have p1 : ((plR h a : Nat) : Int) ≤ 400 := by omega
  have p2 : (0 : Int) ≤ ((plR h a : Nat) : Int) := by omega
  have p3 : ((tbR h a : Nat) : Int) ≤ 64 := by omega
  have p4 : (0 : Int) ≤ ((tbR h a : Nat) : Int) := by omega
  by_cases t3 : (restR h a).length < n8R h a + plR h a
  · have d4 : decide (((restR h a).length : Int) < ((n8R h a : Nat) : Int) + ((plR h a : Nat) : Int)) = true := decide_eq_true (by omega)
    have N7o := N7.out
    rw [← N7o] at d4
    clear N7o
    go_wp2_with fail
    obtain ⟨z0, z1, z2, z3, z4, zb, _⟩ := HRB.out.ret (.int .i64 0) (.int .i64 0) (.int .i64 0) (.string ⟨#[]⟩) (.slice none 0 0)
    refine bodyPost_ret (read_results (H := w.heap.size) (v5 := .int .i64 0) (v6 := .int .i64 3) rfl rfl rfl z0 z1 z2 z3 z4) rfl ?_
    exact NOK.out 3 rfl (fun hh => Nat.not_le_of_gt t3 hh.2.1.2.2) _ zb
  have d4 : decide (((restR h a).length : Int) < ((n8R h a : Nat) : Int) + ((plR h a : Nat) : Int)) = false := decide_eq_false (by omega)
  have HROOM := Lib.hid (show roomR h a from ⟨Nat.le_of_not_lt t1, Nat.le_of_not_lt t2, Nat.le_of_not_lt t3⟩)
  obtain ⟨i8, hi8, hz80, hz81, hz82⟩ := info_parts info8
  have M1 := Lib.hid (show i8.bytes * tbR h a ≤ 281474976710656 by rw [hz82]; omega)
  have M2 := Lib.hid (show tbR h a ≤ maxLen by unfold maxLen; omega)
  have N7o := N7.out
  rw [← N7o] at d4
  clear N7o
  go_wp2_with (at_make; go_loud (refine wpList_make_own _ rfl _ _ 128 rfl w1.heap.size 5 i8 _ 1 Try.underlying128 hi8 hz80 hz81 .i64 .i64 _ (tbR h a) rfl rfl rfl M1.out M2.out (Nat.le_refl _) ?_; intro w2 hown2 hgrow2; have HO2 := Lib.hid hown2; have HG2 := Lib.hid hgrow2; clear hown2 hgrow2))
  have HRB2 := Lib.hid (HRB.out.grown HG2.out (fun g hg => by cases hg))
  have HB2 := Lib.hid (below_grown (Below.refl w1.heap.size w1) (Nat.le_refl _) HG2.out (fun g hg => by cases hg))
  have hs12 := HB2.out.size
  clear a0 a1 a2 a3 a4 r0 r1 r2 r3 r4 fa fr hB
  go_loopw [13, 14, 81] (fun o _ x wr => ∃ (q : Nat) (v : Value), q ≤ tbR h a ∧ x = .int .i64 q ∧ v = o ∧ wr.ownsRow w1.heap.size 5 1 v q ((List.range q).map fun i => Value.int .u8 ((byR h a i : Nat) : Int)) ∧ RB w wr a (kdR h a : Nat) (nmR h a) ⟨#[]⟩ (.slice none 0 0) ∧ Below w1.heap.size w1 wr ∧ v ≠ .slice none 0 0) (fun _ _ x _ => tbR h a - (intOf x).toNat)
  case atStart => exact ⟨0, _, Nat.zero_le _, rfl, rfl, HO2.out, HRB2.out, HB2.out, by simp⟩
  case round =>
    obtain ⟨q, v, hq, rfl, rfl, hV, hR, hB, hnn⟩ := hrel
    have HV := Lib.hid hV
    have HR := Lib.hid hR
    have HB := Lib.hid hB
    have HNN := Lib.hid hnn
    obtain ⟨Av, cv, rfl, v1, v2, _⟩ := own_any hV
    have hBs := hB.size
    clear hV hR hB hnn
    by_cases hlt : q < tbR h a
    · obtain ⟨XR0, rc0, eR, x1, x2, x3, x4⟩ := HSR.out
      injection eR with eR1 _ eR3
      have hroom := HROOM.out.2.2
      have hq8 : q / 8 < (restR h a).length := by unfold n8R at hroom; omega
      obtain ⟨br, orr, rfl, hbr, hcr⟩ := x4 (by omega)
      subst eR1 eR3
      have hcq := hcr (q / 8) hq8 0 _ rfl
      simp only [Nat.mul_one, Nat.add_zero] at hcq
      have HBW := Lib.hid (HR.out.hB)
      have c0 : wr.cell? ⟨br, orr + q / 8, none⟩ = some (.int .u64 ((nth (restR h a) (q / 8) : Nat) : Int)) := (HR.out.hB.cell (p := ⟨br, _, none⟩) hbr).trans hcq
      have m0 : (0 : Int) ≤ (q : Int) := by omega
      have m1 : (q : Int) / 8 < ((restR h a).length : Int) := by omega
      have m2 : (0 : Int) ≤ (q : Int) / 8 := by omega
      have m3 : ((q : Int) / 8).toNat = q / 8 := by omega
      have hby : ((nth (restR h a) (q / 8) : Nat) : Int) / 2 ^ (8 * (q % 8)) % 256 = ((byR h a q : Nat) : Int) := by
        unfold byR
        have e0 : (2 : Nat) ^ (8 * (q % 8)) = 256 ^ (q % 8) := by rw [Nat.pow_mul]
        rw [← e0]
        push_cast
        rfl
      have M3 := Lib.hid (show q ≤ 64 by omega)
      clear hcr x3 hcq
      go_wp2_with (at_builtin; go_loud (refine wpList_append_own_at _ rfl _ _ 128 rfl w1.heap.size 5 i8 _ 1 1 Try.underlying128 hi8 hz80 hz81 hz82 rfl (by omega) (.slice Av q cv) q ((List.range q).map fun i => Value.int .u8 ((byR h a i : Nat) : Int)) rfl (HV.out.alloc _) ⟨wr.heap.size, 0, none⟩ 1 1 [.int .u8 ((byR h a q : Nat) : Int)] rfl rfl (cell_newL _ _ _ _ rfl) (fun u hu => by simp at hu; subst hu; rfl) (by have := M3.out; unfold maxLen; omega) (by have := M3.out; omega) (by simp; omega) ?_; intro v4 w4 hown4 hgrow4 hnil4 _; have HO4 := Lib.hid hown4; have HG4 := Lib.hid hgrow4; have HN4 := Lib.hid hnil4; clear hown4 hgrow4 hnil4))
      refine ⟨⟨q + 1, v4, by omega, by go_num, rfl, ?_, ?_, ?_, ?_⟩, by simp [intOf]; omega⟩
      · rw [List.range_succ, List.map_append]
        exact HO4.out
      · exact (HR.out.grown (World.grownBy_alloc wr _ none) (fun g hg => by cases hg)).grown HG4.out (fun g hg => by have := (HV.out.lt g hg).1; omega)
      · exact below_grown (HB.out.alloc hBs _) (by simp; omega) HG4.out (fun g hg => (HV.out.lt g hg).1)
      · intro he
        have := HN4.out.1 he
        omega
    · have hqt : q = tbR h a := by omega
      subst hqt
      obtain ⟨g, rfl, hgb, hgc⟩ : ∃ g, Av = some ⟨g, 0, none⟩ ∧ w1.heap.size ≤ g ∧ g < wr.heap.size := by
        rcases HV.out.2 with ⟨hv, h'⟩ | ⟨g, cap, cur, hv, hb, hg, hnc, hcm, _⟩
        · exact absurd hv HNN.out
        · injection hv with e1 _ e3
          exact ⟨g, e1, hb, (Array.getElem?_eq_some_iff.1 hg).1⟩
      have hcv : (convert 128 9 (.slice (some ⟨g, 0, none⟩) (tbR h a) cv)).run Try.prog wr = .ok (.string (txR h a)) wr := by
        have hl : ((List.range (tbR h a)).map fun i => UInt8.ofNat (byR h a i)).length = tbR h a := by simp
        have := run_convert_bytes_back (P := Try.prog) wr 128 9 5 ⟨g, 0, none⟩ cv ((List.range (tbR h a)).map fun i => UInt8.ofNat (byR h a i)) Try.underlying128 Try.underlying5 Try.underlying9 (fun j hj => by
          have hj' : j < tbR h a := by rw [hl] at hj; exact hj
          refine HV.out.cells (g := g) rfl j _ ?_
          have hb : byR h a j < 256 := by unfold byR; omega
          simp [hj', Nat.mod_eq_of_lt hb])
        rw [hl] at this
        exact this
      have k9 : decide (((tbR h a : Nat) : Int) < ((tbR h a : Nat) : Int)) = false := decide_eq_false (by omega)
      have HR3 := Lib.hid (HR.out.text (txR h a))
      have hrm := HROOM.out.2.2
      have hpl : (paR h a).length = plR h a := by unfold paR; rw [List.length_take, List.length_drop]; omega
      have HPL := Lib.hid hpl
      have hn7 : (((tbR h a : Nat) : Int) + 7) / 8 = ((n8R h a : Nat) : Int) := N7.out
      obtain ⟨XP, hcp, hSP⟩ := cut_mid XR rc (restR h a) w HSR.out (n8R h a) (n8R h a + plR h a) (by omega) hrm
      have hcp1 : ∀ w, (Instr.sliceAt 23 (.slice XR (restR h a).length rc) (some (.int .i64 ((((tbR h a : Nat) : Int) + 7) / 8))) (some (.int .i64 ((((tbR h a : Nat) : Int) + 7) / 8 + ((plR h a : Nat) : Int)))) none).run Try.prog w = .ok (.slice XP (paR h a).length (rc - n8R h a)) w := fun wx => by
        rw [hn7, hpl]
        have := hcp wx
        rw [show n8R h a + plR h a - n8R h a = plR h a by omega] at this
        push_cast at this
        exact this
      have HSP := Lib.hid (show Su w (.slice XP (paR h a).length (rc - n8R h a)) (paR h a) by
        rw [show n8R h a + plR h a - n8R h a = plR h a by omega] at hSP
        exact hSP)
      have HHB := Lib.hid HR.out.hB
      obtain ⟨a0, a1, a2, a3, a4, r0, r1, r2, r3, r4, fa, fr, hz, hBB⟩ := HR.out
      clear hBB hcp hSP hn7 hrm
      go_upto_if 102 with (fail)
      go_cut [] (fun wx => PartsOk w wx h a)
      case first =>
        by_cases hp0 : ¬ 0 < plR h a
        · have g1 : decide ((0 : Int) < ((plR h a : Nat) : Int)) = false := decide_eq_false (by omega)
          have g2 : decide (0 < plR h a) = false := decide_eq_false (by omega)
          have hpn : paR h a = [] := List.length_eq_zero_iff.1 (hpl.trans (by omega))
          have HPN := Lib.hid hpn
          clear hpn hpl
          go_wp2_with fail
          all_goals try (exfalso; exact hp0 (by assumption))
          go_meet
          exact ⟨⟨none, 0, by rw [HPN.out]; exact HR3.out, by rw [HPN.out]; exact OwnU.nil _ _⟩⟩
        · have g1 : decide ((0 : Int) < ((plR h a : Nat) : Int)) = true := decide_eq_true (by omega)
          have g2 : decide (0 < plR h a) = true := decide_eq_true (by omega)
          have hp1 := Nat.lt_of_not_le (fun h => hp0 (Nat.not_lt.2 h))
          clear hpl hp0
          go_wp2_with fail
          all_goals try (exfalso; exact absurd hp1 (by assumption))
          refine (cloneH_any _ _ (paR h a) _ (HSP.out.below HR3.out.hB) (by have := HPL.out; omega)).mono ?_
          rintro e w4 ⟨A4, c4, rfl, ho4, hb4⟩
          have HO4 := Lib.hid ho4
          have HR4 := Lib.hid (HR3.out.below hb4)
          clear ho4 hb4 a0 a1 a2 a3 a4 r0 r1 r2 r3 r4 fa fr hz
          obtain ⟨a0, a1, a2, a3, a4, r0, r1, r2, r3, r4, fa, fr, hz, hBB⟩ := HR4.out
          clear hBB
          go_wp2_with fail
          go_meet
          have hlt4 : w.heap.size + 1 < (wr.setCell ⟨w.heap.size + 1, 3, none⟩ (.string (txR h a))).heap.size := HR3.out.hz
          exact ⟨⟨A4, c4, HR4.out.parts _, OwnU.mono (own_set HO4.out hlt4) hlt4⟩⟩
      case rest =>
      obtain ⟨pA, pc, hR5, hS5⟩ := hcut.out
      have HR5 := Lib.hid hR5
      have HS5 := Lib.hid hS5
      clear hR5 hS5 hcp1 a0 a1 a2 a3 a4 r0 r1 r2 r3 r4 fa fr hz hpl
      obtain ⟨a0, a1, a2, a3, a4, r0, r1, r2, r3, r4, fa, fr, hz, hBB⟩ := HR5.out
      clear hBB
      go_wp2_with fail
      refine (hvalid_any (obR h a) a pA pc _).mono ?_
      rintro e w6 ⟨rfl, hb6⟩
      have HR6 := Lib.hid (HR5.out.below hb6)
      have HS6 := Lib.hid (HS5.out.below hb6)
      clear hb6 a0 a1 a2 a3 a4 r0 r1 r2 r3 r4 fa fr hz
      obtain ⟨a0, a1, a2, a3, a4, r0, r1, r2, r3, r4, fa, fr, hz, hBB⟩ := HR6.out
      clear hBB
      cases hok : okOb (obR h a) with
      | false =>
        have HOK := Lib.hid hok
        clear hok
        go_wp2_with fail
        obtain ⟨z0, z1, z2, z3, z4, zb, _⟩ := HR6.out.ret (.int .i64 0) (.int .i64 0) (.int .i64 0) (.string ⟨#[]⟩) (.slice none 0 0)
        refine bodyPost_ret (read_results (H := w.heap.size) (v5 := .int .i64 0) (v6 := .int .i64 3) rfl rfl rfl z0 z1 z2 z3 z4) rfl ?_
        exact NOK.out 3 rfl (fun hh => by have := hh.2.2.1; rw [HOK.out] at this; cases this) _ zb
      | true =>
        have HOK := Lib.hid hok
        clear hok
        go_wp2_with fail
        refine (words_any (obR h a) a pA pc _ HOK.out (Su.of_own HS6.out)).mono ?_
        rintro e w7 ⟨A7, c7, rfl, ho7, hb7⟩
        have HR7 := Lib.hid (HR6.out.below hb7)
        have HS7 := Lib.hid (HS6.out.below hb7)
        have HO7 := Lib.hid (Su.of_own ho7)
        clear ho7 hb7 a0 a1 a2 a3 a4 r0 r1 r2 r3 r4 fa fr hz
        obtain ⟨a0, a1, a2, a3, a4, r0, r1, r2, r3, r4, fa, fr, hz, hBB⟩ := HR7.out
        clear hBB
        by_cases hL : h.length - a < (wordsO (obR h a)).length
        · have g5 : decide ((h.length : Int) - (a : Int) < (((wordsO (obR h a)).length : Nat) : Int)) = true := decide_eq_true (by omega)
          have HL := Lib.hid hL
          clear hL
          go_wp2_with fail
          obtain ⟨z0, z1, z2, z3, z4, zb, _⟩ := HR7.out.ret (.int .i64 0) (.int .i64 0) (.int .i64 0) (.string ⟨#[]⟩) (.slice none 0 0)
          refine bodyPost_ret (read_results (H := w.heap.size) (v5 := .int .i64 0) (v6 := .int .i64 3) rfl rfl rfl z0 z1 z2 z3 z4) rfl ?_
          exact NOK.out 3 rfl (fun hh => Nat.not_le_of_gt HL.out hh.2.2.2.1) _ zb
        have g5 : decide ((h.length : Int) - (a : Int) < (((wordsO (obR h a)).length : Nat) : Int)) = false := decide_eq_false (by omega)
        have HL := Lib.hid hL
        obtain ⟨XE, hce, hSE⟩ := cut_mid (some ⟨bk, off, none⟩) hc h w HH.out a (a + (wordsO (obR h a)).length) (by omega) (by omega)
        have hsl : (segR h a (wordsO (obR h a)).length).length = (wordsO (obR h a)).length := by unfold segR; rw [List.length_take, List.length_drop]; omega
        have hce1 : ∀ w, (Instr.sliceAt 23 (.slice (some ⟨bk, off, none⟩) h.length hc) (some (.int .i64 (a : Int))) (some (.int .i64 ((a : Int) + (((wordsO (obR h a)).length : Nat) : Int)))) none).run Try.prog w = .ok (.slice XE (segR h a (wordsO (obR h a)).length).length (hc - a)) w := fun wx => by
          rw [hsl]
          have := hce wx
          rw [show a + (wordsO (obR h a)).length - a = (wordsO (obR h a)).length by omega] at this
          push_cast at this
          exact this
        have HSE := Lib.hid (show Su w (.slice XE (segR h a (wordsO (obR h a)).length).length (hc - a)) (segR h a (wordsO (obR h a)).length) by
          rw [show a + (wordsO (obR h a)).length - a = (wordsO (obR h a)).length by omega] at hSE
          exact hSE)
        have l1 : (0 : Int) ≤ (((wordsO (obR h a)).length : Nat) : Int) := by omega
        have l2 : (((wordsO (obR h a)).length : Nat) : Int) ≤ 17592186044416 := by omega
        have l3 : (h.length : Int) ≤ 17592186044416 := by omega
        clear hce hSE hsl hL
        go_wp2_with fail
        refine (equalH_any_l _ _ _ _ (wordsO (obR h a)) (segR h a (wordsO (obR h a)).length) _ HO7.out (HSE.out.below HR7.out.hB)).mono ?_
        rintro e w8 ⟨rfl, q8, rfl⟩
        have hb8 : Below w7.heap.size w7 (w7.drewN q8) := ⟨rfl, rfl, rfl, Nat.le_refl _, fun _ _ => rfl⟩
        have HR8 := Lib.hid (HR7.out.below hb8)
        have HS8 := Lib.hid (HS7.out.below hb8)
        clear hb8
        cases hq : decide (wordsO (obR h a) = segR h a (wordsO (obR h a)).length) with
        | false =>
          have HQ := Lib.hid hq
          clear hq
          go_wp2_with fail
          obtain ⟨z0, z1, z2, z3, z4, zb, _⟩ := HR8.out.ret (.int .i64 0) (.int .i64 0) (.int .i64 0) (.string ⟨#[]⟩) (.slice none 0 0)
          refine bodyPost_ret (read_results (H := w.heap.size) (v5 := .int .i64 0) (v6 := .int .i64 3) rfl rfl rfl z0 z1 z2 z3 z4) rfl ?_
          exact NOK.out 3 rfl (fun hh => of_decide_eq_false HQ.out hh.2.2.2.2) _ zb
        | true =>
          have HQ := Lib.hid hq
          clear hq
          go_wp2_with fail
          obtain ⟨z0, z1, z2, z3, z4, zb, _⟩ := HR8.out.ret (.int .i64 a) (.int .i64 (kdR h a : Nat)) (.int .i64 (nmR h a)) (.string (txR h a)) (.slice pA (paR h a).length pc)
          refine bodyPost_ret (read_results (H := w.heap.size) (v5 := .int .i64 ((wordsO (obR h a)).length : Nat)) (v6 := .int .i64 0) rfl rfl rfl z0 z1 z2 z3 z4) rfl ?_
          exact .inl ⟨a, rfl, ⟨Nat.lt_of_not_le h1, HROOM.out, HOK.out, Nat.le_of_not_lt HL.out, of_decide_eq_true HQ.out⟩, pA, pc, rfl, (HS8.out.put5 (by omega) _ _ _ _ _).mono (by omega), zb⟩
end Go.Proofs.Ytkdbnkkdohkhjaa
