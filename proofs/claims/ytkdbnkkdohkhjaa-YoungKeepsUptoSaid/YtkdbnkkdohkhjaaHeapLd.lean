/- The reader of values: (*loader).value and heap.Read. -/
import Derived.Test.YtkdbnkkdohkhjaaHeapLdPlain
import Derived.Test.YtkdbnkkdohkhjaaHeapBld
import Derived.Test.YtkdbnkkdohkhjaaEach
namespace Go.Proofs.Ytkdbnkkdohkhjaa
open Go.RowKit
set_option linter.unusedVariables false
/-- the reader's own box: the heap, and how many parts are left -/
structure LB (wx : World) (b : Nat) (hv : Value) (left : Int) : Prop where
  c0 : wx.cell? ⟨b, 0, none⟩ = some hv
  c1 : wx.cell? ⟨b, 1, none⟩ = some (.int .i64 left)
  fr : ∀ o, wx.frozen? ⟨b, o, none⟩ = false
  sz : b < wx.heap.size
theorem LB.grown {wx wy : World} {b : Nat} {hv : Value} {left : Int} {row : Option Nat} (h : LB wx b hv left) (hg : wx.grownBy wy row) (hr : row ≠ some b) : LB wy b hv left := by
  have k0 : ∀ o, wy.cell? ⟨b, o, none⟩ = wx.cell? ⟨b, o, none⟩ := fun o => grown_cell hg h.sz (fun e => hr e.symm)
  exact ⟨(k0 _).trans h.c0, (k0 _).trans h.c1, fun o => (grown_frozen hg h.sz (fun e => hr e.symm)).trans (h.fr o), by have := hg.size; have := h.sz; omega⟩
theorem LB.below {wx wy : World} {b : Nat} {hv : Value} {left : Int} (h : LB wx b hv left) (hb : Below wx.heap.size wx wy) : LB wy b hv left := h.grown (grown_below (g := none) hb) (by simp)
theorem LB.put {wx : World} {b : Nat} {hv : Value} {left : Int} (h : LB wx b hv left) (l : Int) : LB (wx.setCell ⟨b, 1, none⟩ (.int .i64 l)) b hv l := by
  have x1 : (wx.cell? ⟨b, 1, none⟩).isSome = true := by rw [h.c1]; rfl
  constructor
  · simp [go_sem, h.c0]
  · simp [go_sem, x1]
  · intro o; simp [go_sem, h.fr]
  · simpa using h.sz
/-- the box of the answer, still empty -/
structure ZB (wx : World) (b : Nat) : Prop where
  c0 : wx.cell? ⟨b, 0, none⟩ = some (.int .i64 0)
  c1 : wx.cell? ⟨b, 1, none⟩ = some (.int .i64 0)
  c2 : wx.cell? ⟨b, 2, none⟩ = some (.string ⟨#[]⟩)
  c3 : wx.cell? ⟨b, 3, none⟩ = some (.slice none 0 0)
  fr : ∀ o, wx.frozen? ⟨b, o, none⟩ = false
  sz : b < wx.heap.size
theorem ZB.grown {wx wy : World} {b : Nat} {row : Option Nat} (h : ZB wx b) (hg : wx.grownBy wy row) (hr : row ≠ some b) : ZB wy b := by
  have k0 : ∀ o, wy.cell? ⟨b, o, none⟩ = wx.cell? ⟨b, o, none⟩ := fun o => grown_cell hg h.sz (fun e => hr e.symm)
  exact ⟨(k0 _).trans h.c0, (k0 _).trans h.c1, (k0 _).trans h.c2, (k0 _).trans h.c3, fun o => (grown_frozen hg h.sz (fun e => hr e.symm)).trans (h.fr o), by have := hg.size; have := h.sz; omega⟩
theorem ZB.below {wx wy : World} {b : Nat} (h : ZB wx b) (hb : Below wx.heap.size wx wy) : ZB wy b := h.grown (grown_below (g := none) hb) (by simp)
def zeroV : Value := .agg #[.int .i64 0, .int .i64 0, .string ⟨#[]⟩, .slice none 0 0]
def LdPost (r : LdR) (lb : Nat) (hv : Value) (w : World) (e : Ending) (w' : World) : Prop :=
  (LB w' lb hv r.left ∧ w.grownBy w' (some lb)) ∧ ((r.err = 0 ∧ ∃ cs, e = .returned (.tuple #[.agg cs.toArray, .int .i64 0]) ∧ r.val.isV w' (fun b => w.heap.size ≤ b) cs) ∨ (r.err ≠ 0 ∧ e = .returned (.tuple #[.agg #[.int .i64 0, .int .i64 0, .string ⟨#[]⟩, .slice none 0 0], .int .i64 r.err])))
def LdOk (h : List Nat) (hv : Value) (w0 : World) (d : Nat) : Prop := ∀ (x : Nat) (left lv : Int) (lb : Nat) (w : World), x < 18446744073709551616 → 0 ≤ left → left ≤ 1000000 → lv + d = 41 → 0 ≤ lv → LB w lb hv left → w0.heap.size ≤ lb → Below w0.heap.size w0 w →
  Calls Try.prog 74 #[.pointer (some ⟨lb, 0, none⟩), .int .u64 (x : Int), .int .i64 lv] w (LdPost (ldv h d x left) lb hv w)
/-- the world behind the first two steps -/
structure LdW (w W1 : World) (lb : Nat) (hv : Value) (left : Int) : Prop where
  hl : LB W1 lb hv (left - 1)
  hz : ZB W1 w.heap.size
  gr : w.grownBy W1 (some lb)
  sz : W1.heap.size = w.heap.size + 1
theorem LdW.new {w : World} {lb : Nat} {hv : Value} {left : Int} (h : LB w lb hv left) : LdW w ((w.setCell ⟨lb, 1, none⟩ (.int .i64 (left - 1))).alloc (.cells #[.int .i64 0, .int .i64 0, .string ⟨#[]⟩, .slice none 0 0] 90)) lb hv left := by
  have hp := h.put (left - 1)
  have hs : (w.setCell ⟨lb, 1, none⟩ (.int .i64 (left - 1))).heap.size = w.heap.size := by simp
  refine ⟨hp.below ((Below.refl _ _).alloc (Nat.le_refl _) _), ?_, grown_alloc (grown_set (grown_self _ _) _) _, by simp⟩
  rw [← hs]
  generalize w.setCell ⟨lb, 1, none⟩ (.int .i64 (left - 1)) = W'
  constructor
  · simp
  · simp
  · simp
  · simp
  · intro o; simp
  · simp
def ans4 (W : World) (b : Nat) (u0 u1 u2 u3 : Value) : World := (((W.setCell ⟨b, 0, none⟩ u0).setCell ⟨b, 1, none⟩ u1).setCell ⟨b, 2, none⟩ u2).setCell ⟨b, 3, none⟩ u3
theorem ans4_grown (W : World) (b : Nat) (u0 u1 u2 u3 : Value) : W.grownBy (ans4 W b u0 u1 u2 u3) (some b) := grown_set (grown_set (grown_set (grown_set (grown_self _ _) _) _) _) _
theorem ans4_other {W : World} {b c : Nat} (hne : c ≠ b) (u0 u1 u2 u3 : Value) (o : Nat) : (ans4 W b u0 u1 u2 u3).cell? ⟨c, o, none⟩ = W.cell? ⟨c, o, none⟩ := by
  refine World.cell?_of_block (a := ⟨c, o, none⟩) ?_
  unfold ans4
  rw [Below.heap_setCell _ _ _ _ hne, Below.heap_setCell _ _ _ _ hne, Below.heap_setCell _ _ _ _ hne, Below.heap_setCell _ _ _ _ hne]
theorem ld_fin {w W : World} {lb : Nat} {hv : Value} {left : Int} (hl : LB W lb hv left) (hg : w.grownBy W (some lb)) (hz : lb < w.heap.size) (u0 u1 u2 u3 : Value) : LB (ans4 W w.heap.size u0 u1 u2 u3) lb hv left ∧ w.grownBy (ans4 W w.heap.size u0 u1 u2 u3) (some lb) :=
  ⟨hl.grown (ans4_grown _ _ _ _ _ _) (fun e => by injection e with e; omega), grown_step hg (ans4_grown _ _ _ _ _ _) (.inr fun k e => by injection e with e; omega)⟩
set_option maxHeartbeats 4000000 in
set_option maxRecDepth 100000 in
theorem ld_zero (h : List Nat) (hv : Value) (w0 : World) : LdOk h hv w0 0 := by
  intro x left lv lb w hx h0 h1 hlv hlv0 hLB hw0 hB
  obtain rfl : lv = 41 := by omega
  have HW := Lib.hid (LdW.new hLB)
  obtain ⟨l0, l1, lf, lz⟩ := hLB
  go_enter Try.func74, Try.ntmps74
  go_wp2_with fail
  all_goals refine bodyPost_ret (v := .tuple #[.agg #[.int .i64 0, .int .i64 0, .string ⟨#[]⟩, .slice none 0 0], .int .i64 2]) (by simp [results, Try.results74, go_sem]) rfl ?_
  all_goals exact ⟨⟨HW.out.hl, HW.out.gr⟩, .inr ⟨by simp [ldv], rfl⟩⟩
/-- what is read of a word where something is left -/
def ldIn (h : List Nat) (d x : Nat) (left : Int) : LdR := if leafB x then ⟨0, leafV x, left - 1⟩ else
      if okR x = false then ⟨3, .none, left - 1⟩ else
      if readsV h (numOf x).toNat then ldNode (obR h (numOf x).toNat) (ldArgs (ldv h d) (obR h (numOf x).toNat).parts (left - 1) (obR h (numOf x).toNat).parts.length) else ⟨errA h (numOf x), .none, left - 1⟩
theorem ldv_in (h : List Nat) (d x : Nat) {left : Int} (hl : ¬ left - 1 < 0) : ldv h (d + 1) x left = ldIn h d x left := by
  conv => lhs; unfold ldv
  rw [if_neg hl]
  rfl
/-- the box of the value that is read, while the reader is at its parts -/
structure QB (wr : World) (b : Nat) (k m : Int) (s : ByteArray) (pv : Value) : Prop where
  c0 : wr.cell? ⟨b, 0, none⟩ = some (.int .i64 k)
  c1 : wr.cell? ⟨b, 1, none⟩ = some (.int .i64 m)
  c2 : wr.cell? ⟨b, 2, none⟩ = some (.string s)
  c3 : wr.cell? ⟨b, 3, none⟩ = some pv
  fr : ∀ o, wr.frozen? ⟨b, o, none⟩ = false
  sz : b < wr.heap.size
theorem QB.grown {wx wy : World} {b : Nat} {k m : Int} {s : ByteArray} {pv : Value} {row : Option Nat} (h : QB wx b k m s pv) (hg : wx.grownBy wy row) (hr : row ≠ some b) : QB wy b k m s pv := by
  have k0 : ∀ o, wy.cell? ⟨b, o, none⟩ = wx.cell? ⟨b, o, none⟩ := fun o => grown_cell hg h.sz (fun e => hr e.symm)
  exact ⟨(k0 _).trans h.c0, (k0 _).trans h.c1, (k0 _).trans h.c2, (k0 _).trans h.c3, fun o => (grown_frozen hg h.sz (fun e => hr e.symm)).trans (h.fr o), by have := hg.size; have := h.sz; omega⟩
theorem QB.put {wx : World} {b : Nat} {k m : Int} {s : ByteArray} {pv : Value} (h : QB wx b k m s pv) (u : Value) : QB (wx.setCell ⟨b, 3, none⟩ u) b k m s u := by
  have x3 : (wx.cell? ⟨b, 3, none⟩).isSome = true := by rw [h.c3]; rfl
  constructor
  · simp [go_sem, h.c0]
  · simp [go_sem, h.c1]
  · simp [go_sem, h.c2]
  · simp [go_sem, x3]
  · intro o; simp [go_sem, h.fr]
  · simpa using h.sz
theorem QB.new (w : World) (k m : Int) (s : ByteArray) (A : Option Addr) (n c : Nat) : QB (w.alloc (.cells #[.int .i64 k, .int .i64 m, .string s, .slice A n c] 90)) w.heap.size k m s (.slice A n c) := by
  constructor
  any_goals (first | simp [go_sem] | (intro o; simp [go_sem]))
theorem ZB.fill {wx : World} {b : Nat} (h : ZB wx b) (k m : Int) (s : ByteArray) (v : Value) : QB (ans4 wx b (.int .i64 k) (.int .i64 m) (.string s) v) b k m s v := by
  have x0 : (wx.cell? ⟨b, 0, none⟩).isSome = true := by rw [h.c0]; rfl
  have x1 : (wx.cell? ⟨b, 1, none⟩).isSome = true := by rw [h.c1]; rfl
  have x2 : (wx.cell? ⟨b, 2, none⟩).isSome = true := by rw [h.c2]; rfl
  have x3 : (wx.cell? ⟨b, 3, none⟩).isSome = true := by rw [h.c3]; rfl
  unfold ans4
  constructor
  · simp [go_sem, x0]
  · simp [go_sem, x1]
  · simp [go_sem, x2]
  · simp [go_sem, x3]
  · intro o; simp [go_sem, h.fr]
  · simpa using h.sz
def LdOut (W4 : World) (k m : Int) (s : ByteArray) (x : Value) (wx : World) : Prop := ∃ b, x = .pointer (some ⟨b, 0, none⟩) ∧ W4.heap.size ≤ b ∧ QB wx b k m s (.slice none 0 0) ∧ Below W4.heap.size W4 wx
theorem index_kinds {K : Nat} (h1 : 1 ≤ K) (h5 : K ≤ 5) : ∀ W : World, (Instr.index 161 (.agg #[.int .i64 0, .int .i64 2, .int .i64 4, .int .i64 5, .int .i64 7, .int .i64 8]) (.int .i64 (K : Int))).run Try.prog W = .ok (.int .i64 (kindsF K)) W := by
  have hkk : K = 1 ∨ K = 2 ∨ K = 3 ∨ K = 4 ∨ K = 5 := by omega
  rcases hkk with rfl | rfl | rfl | rfl | rfl <;> (intro W; kernel_rfl)
theorem leaf_isV (x : Int) (w : World) (S : Nat → Prop) : (leafV x).isV w S [.int .i64 (kindT (tagOf x)), .int .i64 (numOf x), .string ⟨#[]⟩, .slice none 0 0] := ⟨none, 0, rfl, Nat.le_refl _, by omega, fun _ => rfl, fun h => by omega⟩
set_option maxHeartbeats 8000000 in
set_option maxRecDepth 100000 in
theorem ld_succ (h : List Nat) (hA : Option Addr) (hc : Nat) (w0 : World) (d : Nat) (hS : Su w0 (.slice hA h.length hc) h) (h64 : All64 h) (hlen : h.length ≤ 17592186044416) (ih : LdOk h (.slice hA h.length hc) w0 d) : LdOk h (.slice hA h.length hc) w0 (d + 1) := by
  intro x left lv lb w hx h0 h1 hlv hlv0 hLB hw0 hB
  have HS := Lib.hid hS
  have H64 := Lib.hid h64
  have IH := Lib.hid ih
  have HW := Lib.hid (LdW.new hLB)
  have hlv1 : lv ≤ 40 := by omega
  have HLV := Lib.hid hlv
  have HB := Lib.hid hB
  clear hS h64 ih hlv hB
  by_cases hl : left - 1 < 0
  · have HR := Lib.hid (show ldv h (d + 1) x left = ⟨2, .none, left - 1⟩ by simp only [ldv]; rw [if_pos hl])
    have hl' : left < 1 := by omega
    obtain ⟨l0, l1, lf, lz⟩ := hLB
    clear hl
    go_enter Try.func74, Try.ntmps74
    go_wp2_with fail
    refine bodyPost_ret (v := .tuple #[.agg #[.int .i64 0, .int .i64 0, .string ⟨#[]⟩, .slice none 0 0], .int .i64 2]) (by simp [results, Try.results74, go_sem]) rfl ?_
    rw [HR.out]
    exact ⟨⟨HW.out.hl, HW.out.gr⟩, .inr ⟨by simp, rfl⟩⟩
  have hl' : 1 ≤ left := by omega
  have HRD := Lib.hid (ldv_in h d x hl)
  obtain ⟨l0, l1, lf, lz⟩ := hLB
  have HLZ := Lib.hid lz
  clear hl
  obtain ⟨W1, hW1⟩ : ∃ W1, W1 = (w.setCell ⟨lb, 1, none⟩ (.int .i64 (left - 1))).alloc (.cells #[.int .i64 0, .int .i64 0, .string ⟨#[]⟩, .slice none 0 0] 90) := ⟨_, rfl⟩
  rw [← hW1] at HW
  have hux : U64 (x : Int) := by unfold U64; omega
  have HUX := Lib.hid hux
  clear hux
  have hwz := HW.out.sz
  have HWZ := Lib.hid hwz
  clear hwz
  have HB1 := Lib.hid (below_grown HB.out HB.out.size HW.out.gr (fun g hg => by injection hg with hg; omega))
  go_enter Try.func74, Try.ntmps74
  go_wp2_with fail
  rw [← hW1]
  clear hW1 l0 l1 lf lz
  cases hlf : leafB (x : Int) with
  | true =>
    have HR := Lib.hid (show ldv h (d + 1) x left = ⟨0, leafV x, left - 1⟩ by rw [HRD.out]; unfold ldIn; rw [if_pos hlf])
    have hok : okR (x : Int) = true ∧ tagOf x ≤ 3 := by
      unfold leafB at hlf
      simpa using hlf
    refine (value_yes _ _ HUX.out hok.1 hok.2).mono ?_
    rintro e w2 ⟨rfl, hb2⟩
    have HL2 := Lib.hid (HW.out.hl.below hb2)
    have hz2 := HW.out.hz.below hb2
    have HG2 := Lib.hid (grown_step HW.out.gr (grown_below (g := none) hb2) (.inr (by simp)))
    obtain ⟨z0, z1, z2, z3, zf, zz⟩ := hz2
    have x0 : (w2.cell? ⟨w.heap.size, 0, none⟩).isSome = true := by rw [z0]; rfl
    have x1 : (w2.cell? ⟨w.heap.size, 1, none⟩).isSome = true := by rw [z1]; rfl
    have x2 : (w2.cell? ⟨w.heap.size, 2, none⟩).isSome = true := by rw [z2]; rfl
    have x3 : (w2.cell? ⟨w.heap.size, 3, none⟩).isSome = true := by rw [z3]; rfl
    clear hlf hok hb2
    go_wp2_with fail
    refine bodyPost_ret (v := .tuple #[.agg #[.int .i64 (kindT (tagOf x)), .int .i64 (numOf x), .string ⟨#[]⟩, .slice none 0 0], .int .i64 0]) (by simp [results, Try.results74, go_sem, x0, x1, x2, x3, zz]) rfl ?_
    rw [HR.out]
    obtain ⟨f1, f2⟩ := ld_fin HL2.out HG2.out HLZ.out (.int .i64 (kindT (tagOf x))) (.int .i64 (numOf x)) (.string ⟨#[]⟩) (.slice none 0 0)
    exact ⟨⟨f1.below ((Below.refl _ _).alloc (Nat.le_refl _) _), grown_alloc f2 _⟩, .inl ⟨rfl, _, rfl, leaf_isV _ _ _⟩⟩
  | false =>
    have hno : okR (x : Int) = false ∨ ¬ tagOf (x : Int) ≤ 3 := by
      unfold leafB at hlf
      by_cases h3 : okR (x : Int) = true
      · refine .inr ?_
        simp [h3] at hlf
        omega
      · exact .inl (by simpa using h3)
    refine (value_no _ _ HUX.out hno).mono ?_
    rintro e w2 ⟨rfl, hb2⟩
    have HL2 := Lib.hid (HW.out.hl.below hb2)
    have hz2 := HW.out.hz.below hb2
    have HG2 := Lib.hid (grown_step HW.out.gr (grown_below (g := none) hb2) (.inr (by simp)))
    have HLF := Lib.hid hlf
    have HB2 := Lib.hid (HB1.out.trans (hb2.mono HB1.out.size))
    have HZ2 := Lib.hid hz2
    have hz12 := hb2.size
    clear hlf hb2
    cases hok : okR (x : Int) with
    | false =>
      have HR := Lib.hid (show ldv h (d + 1) x left = ⟨3, .none, left - 1⟩ by rw [HRD.out]; unfold ldIn; rw [if_neg (by rw [HLF.out]; simp), if_pos hok])
      have HOK := Lib.hid hok
      obtain ⟨z0, z1, z2, z3, zf, zz⟩ := hz2
      have x0 : (w2.cell? ⟨w.heap.size, 0, none⟩).isSome = true := by rw [z0]; rfl
      have x1 : (w2.cell? ⟨w.heap.size, 1, none⟩).isSome = true := by rw [z1]; rfl
      have x2 : (w2.cell? ⟨w.heap.size, 2, none⟩).isSome = true := by rw [z2]; rfl
      have x3 : (w2.cell? ⟨w.heap.size, 3, none⟩).isSome = true := by rw [z3]; rfl
      clear hok hno
      go_wp2_with fail
      refine (read_no _ _ HUX.out HOK.out).mono ?_
      rintro e w' ⟨rfl, rfl⟩
      go_wp2_with fail
      refine bodyPost_ret (v := .tuple #[.agg #[.int .i64 0, .int .i64 0, .string ⟨#[]⟩, .slice none 0 0], .int .i64 3]) (by simp [results, Try.results74, go_sem, x0, x1, x2, x3, zz]) rfl ?_
      rw [HR.out]
      obtain ⟨f1, f2⟩ := ld_fin HL2.out HG2.out HLZ.out (.int .i64 0) (.int .i64 0) (.string ⟨#[]⟩) (.slice none 0 0)
      exact ⟨⟨f1.below ((Below.refl _ _).alloc (Nat.le_refl _) _), grown_alloc f2 _⟩, .inr ⟨by simp, rfl⟩⟩
    | true =>
      have h4 : tagOf (x : Int) = 4 := by
        have h' := hok
        unfold okR at h'
        simp only [Bool.and_eq_true, decide_eq_true_eq] at h'
        rcases hno with h5 | h5
        · rw [hok] at h5; cases h5
        · omega
      have hn0 : 0 ≤ numOf (x : Int) := by
        have h' := hok
        unfold okR at h'
        simp only [Bool.and_eq_true, decide_eq_true_eq] at h'
        rw [h4] at h'
        have := h'.2
        simp [validB] at this
        omega
      obtain ⟨a, ha⟩ : ∃ a : Nat, numOf (x : Int) = a := ⟨(numOf (x : Int)).toNat, (Int.toNat_of_nonneg hn0).symm⟩
      have HOK := Lib.hid hok
      have H4 := Lib.hid h4
      have HA := Lib.hid ha
      have HRA := Lib.hid (show ldv h (d + 1) x left = if readsV h a then ldNode (obR h a) (ldArgs (ldv h d) (obR h a).parts (left - 1) (obR h a).parts.length) else ⟨errA h a, .none, left - 1⟩ by
        rw [HRD.out]; unfold ldIn; rw [if_neg (by rw [HLF.out]; simp), if_neg (by rw [hok]; simp), ha, Int.toNat_natCast])
      obtain ⟨z0, z1, z2, z3, zf, zz⟩ := hz2
      obtain ⟨m0, m1, mf, mz⟩ := HL2.out
      clear hno hok h4 hn0 ha
      go_wp2_with fail
      refine (read_ok _ _ HUX.out HOK.out).mono ?_
      rintro e w' ⟨rfl, rfl⟩
      rw [H4.out, HA.out]
      go_wp2_with fail
      refine (At_any h hA hc (a : Int) _ (HS.out.below (HB2.out.alloc HB2.out.size _)) H64.out hlen).mono ?_
      rintro e w3 (⟨a', ha', hok3, qA, qc, rfl, hO3, hb3⟩ | ⟨hno3, y, hy, rfl, hb3, hye⟩)
      · obtain rfl : a = a' := by omega
        obtain ⟨K, hK⟩ : ∃ K, K = kdR h a := ⟨_, rfl⟩
        obtain ⟨M, hM⟩ : ∃ M, M = nmR h a := ⟨_, rfl⟩
        obtain ⟨T, hT⟩ : ∃ T, T = txR h a := ⟨_, rfl⟩
        obtain ⟨P, hP⟩ : ∃ P, P = paR h a := ⟨_, rfl⟩
        have hobr : obR h a = ⟨(K : Int), M, T, P⟩ := by rw [hK, hM, hT, hP]; rfl
        have hk5 : 1 ≤ K ∧ K ≤ 5 := by
          have h1 := (okOb_iff.1 hok3.2.2.1).1
          rw [hobr] at h1
          have h1' : (1 : Int) ≤ (K : Int) ∧ (K : Int) ≤ 5 := h1
          omega
        rw [← hP] at hO3
        rw [← hK, ← hM, ← hT, ← hP]
        have HP64 := Lib.hid (show All64 P by rw [hP]; exact (reads_good hok3 H64.out).parts)
        have HPL := Lib.hid (show P.length ≤ 400 by
          have h1 := (okOb_iff.1 hok3.2.2.1)
          rw [hobr] at h1
          exact Nat.le_trans h1.2.2.2.1 (mostP_le _))
        have HRN := Lib.hid (show ldv h (d + 1) x left = ldNode ⟨(K : Int), M, T, P⟩ (ldArgs (ldv h d) P (left - 1) P.length) by rw [HRA.out, if_pos (readsV_iff.2 hok3), hobr])
        clear hK hM hT hP hobr hok3 ha'
        have hb23 := (Below.refl w2.heap.size w2).alloc (Nat.le_refl _) (.cells #[.int .i64 0, .int .i64 0, .string ⟨#[]⟩, .slice none 0 0] 90)
        have hb3' := hb23.trans (hb3.mono (by simp))
        have HL3 := Lib.hid (HL2.out.below hb3')
        have HZ3 := Lib.hid (HZ2.out.below hb3')
        have HG3 := Lib.hid (grown_step HG2.out (grown_below (g := none) hb3') (.inr (by simp)))
        have HB3 := Lib.hid (HB2.out.trans (hb3'.mono HB2.out.size))
        have HO3 := Lib.hid hO3
        have hz3 := hb3'.size
        clear hO3 hb3 hb23 hb3' z0 z1 z2 z3 zf zz m0 m1 mf mz
        obtain ⟨k1, k2⟩ := hk5
        have hwz := HWZ.out
        go_upto_region 13 with (fail)
        obtain ⟨W4, hW4⟩ : ∃ W4, W4 = w3.alloc (.cells #[.int .i64 (a : Int), .int .i64 (K : Int), .int .i64 M, .string T, .slice qA P.length qc] 33) := ⟨_, rfl⟩
        rw [← hW4]
        have hb34 : Below w3.heap.size w3 W4 := by rw [hW4]; exact (Below.refl _ _).alloc (Nat.le_refl _) _
        have HL4 := Lib.hid (HL3.out.below hb34)
        have HZ4 := Lib.hid (HZ3.out.below hb34)
        have HG4 := Lib.hid (grown_step HG3.out (grown_below (g := none) hb34) (.inr (by simp)))
        have HB4 := Lib.hid (HB3.out.trans (hb34.mono HB3.out.size))
        have HO4 := Lib.hid (HO3.out.below hb34)
        have hz4 : w3.heap.size < W4.heap.size := by rw [hW4]; simp
        have q1 : W4.cell? ⟨w3.heap.size, 1, none⟩ = some (.int .i64 (K : Int)) := by rw [hW4]; simp
        have q2 : W4.cell? ⟨w3.heap.size, 2, none⟩ = some (.int .i64 M) := by rw [hW4]; simp
        have q3 : W4.cell? ⟨w3.heap.size, 3, none⟩ = some (.string T) := by rw [hW4]; simp
        have q4 : W4.cell? ⟨w3.heap.size, 4, none⟩ = some (.slice qA P.length qc) := by rw [hW4]; simp
        clear hb34 hW4
        go_cut [14] (fun x wx => LdOut W4 (kindsF K) M T x wx)
        case first =>
          have HBZ := Lib.hid (show Below W4.heap.size W4 (W4.alloc (.cells #[.int .i64 0, .int .i64 0, .string ⟨#[]⟩, .slice none 0 0] 90)) from (Below.refl _ _).alloc (Nat.le_refl _) _)
          have HLTZ := Lib.hid (show w3.heap.size < ((W4.alloc (.cells #[.int .i64 0, .int .i64 0, .string ⟨#[]⟩, .slice none 0 0] 90))).drew.heap.size from by show _ < ((W4.alloc (.cells #[.int .i64 0, .int .i64 0, .string ⟨#[]⟩, .slice none 0 0] 90))).heap.size; simp; omega)
          have HYZ := Lib.hid (show W4.heap.size < ((W4.alloc (.cells #[.int .i64 0, .int .i64 0, .string ⟨#[]⟩, .slice none 0 0] 90))).drew.heap.size from by show _ < ((W4.alloc (.cells #[.int .i64 0, .int .i64 0, .string ⟨#[]⟩, .slice none 0 0] 90))).heap.size; simp)
          have HZZ := Lib.hid (show ZB (W4.alloc (.cells #[.int .i64 0, .int .i64 0, .string ⟨#[]⟩, .slice none 0 0] 90)) W4.heap.size from by
            constructor
            any_goals (first | simp [go_sem] | (intro o; simp [go_sem])))
          have HA2 := Lib.hid (show ((W4.alloc (.cells #[.int .i64 0, .int .i64 0, .string ⟨#[]⟩, .slice none 0 0] 90))).cell? ⟨w3.heap.size, 2, none⟩ = some (.int .i64 M) from (HBZ.out.cell (p := ⟨w3.heap.size, 2, none⟩) hz4).trans q2)
          have HA3 := Lib.hid (show ((W4.alloc (.cells #[.int .i64 0, .int .i64 0, .string ⟨#[]⟩, .slice none 0 0] 90))).cell? ⟨w3.heap.size, 3, none⟩ = some (.string T) from (HBZ.out.cell (p := ⟨w3.heap.size, 3, none⟩) hz4).trans q3)
          have hix := index_kinds k1 k2
          have hne4 : w3.heap.size ≠ W4.heap.size := by omega
          have p1 := q1
          have HA1 := Lib.hid (show (W4.alloc (.cells #[.int .i64 0, .int .i64 0, .string ⟨#[]⟩, .slice none 0 0] 90)).cell? ⟨w3.heap.size, 1, none⟩ = some (.int .i64 (K : Int)) from (HBZ.out.cell (p := ⟨w3.heap.size, 1, none⟩) hz4).trans p1)
          have d1 : W4.drew.cell? ⟨w3.heap.size, 1, none⟩ = some (.int .i64 (K : Int)) := p1
          have d2 : W4.drew.cell? ⟨w3.heap.size, 2, none⟩ = some (.int .i64 M) := q2
          have d3 : W4.drew.cell? ⟨w3.heap.size, 3, none⟩ = some (.string T) := q3
          have HD1 := Lib.hid (show (W4.alloc (.cells #[.int .i64 0, .int .i64 0, .string ⟨#[]⟩, .slice none 0 0] 90)).drew.cell? ⟨w3.heap.size, 1, none⟩ = some (.int .i64 (K : Int)) from HA1.out)
          have HD2 := Lib.hid (show (W4.alloc (.cells #[.int .i64 0, .int .i64 0, .string ⟨#[]⟩, .slice none 0 0] 90)).drew.cell? ⟨w3.heap.size, 2, none⟩ = some (.int .i64 M) from HA2.out)
          have HD3 := Lib.hid (show (W4.alloc (.cells #[.int .i64 0, .int .i64 0, .string ⟨#[]⟩, .slice none 0 0] 90)).drew.cell? ⟨w3.heap.size, 3, none⟩ = some (.string T) from HA3.out)
          clear q1
          go_region_held3 (fun W => W.cell? ⟨w3.heap.size, 1, none⟩ = some (.int .i64 (K : Int)) ∧ W.cell? ⟨w3.heap.size, 2, none⟩ = some (.int .i64 M) ∧ W.cell? ⟨w3.heap.size, 3, none⟩ = some (.string T))
            (first | with_reducible exact ⟨p1, q2, q3⟩ | with_reducible exact ⟨d1, d2, d3⟩ | with_reducible exact ⟨r1, r2, r3⟩ | with_reducible exact ⟨HA1.out, HA2.out, HA3.out⟩ | with_reducible exact ⟨HD1.out, HD2.out, HD3.out⟩ | with_reducible exact ⟨t1, t2, t3⟩ | go_keep)
            ((go_at_call 91; refine (kinds_any _).mono ?_; rintro e w5 ⟨rfl, hb5⟩; (first
              | (have hc5 := (fun o => hb5.cell (p := ⟨w3.heap.size, o, none⟩) hz4); have hB5 := Lib.hid (below_drew' hb5); obtain ⟨r1, r2, r3⟩ := (show w5.cell? ⟨w3.heap.size, 1, none⟩ = some (.int .i64 (K : Int)) ∧ w5.cell? ⟨w3.heap.size, 2, none⟩ = some (.int .i64 M) ∧ w5.cell? ⟨w3.heap.size, 3, none⟩ = some (.string T) from ⟨(hc5 1).trans p1, (hc5 2).trans q2, (hc5 3).trans q3⟩); clear hb5 hc5)
              | (have hc5 := (fun o => hb5.cell (p := ⟨w3.heap.size, o, none⟩) HLTZ.out); have hy5 := (fun o => hb5.cell (p := ⟨W4.heap.size, o, none⟩) HYZ.out); have hf5 := (fun o => hb5.frozen (p := ⟨W4.heap.size, o, none⟩) HYZ.out); have hB5 := Lib.hid (HBZ.out.trans ((below_drew' hb5).mono HBZ.out.size)); obtain ⟨r1, r2, r3⟩ := (show w5.cell? ⟨w3.heap.size, 1, none⟩ = some (.int .i64 (K : Int)) ∧ w5.cell? ⟨w3.heap.size, 2, none⟩ = some (.int .i64 M) ∧ w5.cell? ⟨w3.heap.size, 3, none⟩ = some (.string T) from ⟨(hc5 1).trans HA1.out, (hc5 2).trans HA2.out, (hc5 3).trans HA3.out⟩); have HZ5 := Lib.hid (show ZB w5 W4.heap.size from ⟨(hy5 0).trans HZZ.out.c0, (hy5 1).trans HZZ.out.c1, (hy5 2).trans HZZ.out.c2, (hy5 3).trans HZZ.out.c3, fun o => (hf5 o).trans (HZZ.out.fr o), Nat.lt_of_lt_of_le HYZ.out hb5.size⟩); obtain ⟨s0, s1, s2, s3, sf, sz5⟩ := HZ5.out; have t1 := (show ((((w5.setCell ⟨W4.heap.size, 0, none⟩ (.int .i64 (kindsF K))).setCell ⟨W4.heap.size, 1, none⟩ (.int .i64 M)).setCell ⟨W4.heap.size, 2, none⟩ (.string T)).setCell ⟨W4.heap.size, 3, none⟩ (.slice none 0 0)).cell? ⟨w3.heap.size, 1, none⟩ = some (.int .i64 (K : Int)) from (ans4_other (W := w5) (b := W4.heap.size) hne4 _ _ _ _ 1).trans r1); have t2 := (show ((((w5.setCell ⟨W4.heap.size, 0, none⟩ (.int .i64 (kindsF K))).setCell ⟨W4.heap.size, 1, none⟩ (.int .i64 M)).setCell ⟨W4.heap.size, 2, none⟩ (.string T)).setCell ⟨W4.heap.size, 3, none⟩ (.slice none 0 0)).cell? ⟨w3.heap.size, 2, none⟩ = some (.int .i64 M) from (ans4_other (W := w5) (b := W4.heap.size) hne4 _ _ _ _ 2).trans r2); have t3 := (show ((((w5.setCell ⟨W4.heap.size, 0, none⟩ (.int .i64 (kindsF K))).setCell ⟨W4.heap.size, 1, none⟩ (.int .i64 M)).setCell ⟨W4.heap.size, 2, none⟩ (.string T)).setCell ⟨W4.heap.size, 3, none⟩ (.slice none 0 0)).cell? ⟨w3.heap.size, 3, none⟩ = some (.string T) from (ans4_other (W := w5) (b := W4.heap.size) hne4 _ _ _ _ 3).trans r3); clear hb5 hc5 hy5 hf5))))
          all_goals
            go_wp2_with fail
            go_meet
            first
              | exact ⟨w5.heap.size, rfl, hB5.out.size, QB.new _ _ _ _ _ _ _, hB5.out.alloc hB5.out.size _⟩
              | exact ⟨W4.heap.size, rfl, Nat.le_refl _, HZ5.out.fill _ _ _ _, below_set (below_set (below_set (below_set hB5.out (Nat.le_refl _)) (Nat.le_refl _)) (Nat.le_refl _)) (Nat.le_refl _)⟩
        case rest =>
        obtain ⟨oB, hx14, hoB, hQ5, hb45⟩ := hcut
        subst hx14
        have HQ5 := Lib.hid hQ5
        have HL5 := Lib.hid (HL4.out.below hb45)
        have HZ5 := Lib.hid (HZ4.out.below hb45)
        have HG5 := Lib.hid (grown_step HG4.out (grown_below (g := none) hb45) (.inr (by simp)))
        have HB5 := Lib.hid (HB4.out.trans (hb45.mono HB4.out.size))
        have HO5 := Lib.hid (HO4.out.below hb45)
        have HPB := Lib.hid (fun k (hk : (Value.slice qA P.length qc).ownBlock = some k) => (HO4.out.blk k hk).2)
        have q5 : wc.cell? ⟨w3.heap.size, 4, none⟩ = some (.slice qA P.length qc) := (hb45.cell (p := ⟨w3.heap.size, 4, none⟩) hz4).trans q4
        have hz5 := hb45.size
        have hpl := HPL.out
        have hlz := HLZ.out
        clear hQ5 hb45 q1 q2 q3 q4
        go_wp2_with fail
        clear q5
        go_loopw [16, 17, 18, 81] (fun _ _ _ i wr => ∃ (q : Nat) (ts : List VT) (C : Nat → List Value) (L : Int) (vA : Option Addr) (vc : Nat), i = .int .i64 (q : Int) ∧ q ≤ P.length ∧ ldArgs (ldv h d) P (left - 1) q = ⟨0, ts, L⟩ ∧ QB wr oB (kindsF K) M T (.slice vA ts.length vc) ∧ VRow wr (oB + 1) (.slice vA ts.length vc) ts C ∧ LB wr lb (.slice hA h.length hc) L ∧ ZB wr w.heap.size ∧ OwnU wr w.heap.size (.slice qA P.length qc) P ∧ w.grownBy wr (some lb))
          (fun _ _ _ i _ => P.length - (intOf i).toNat)
        case atStart =>
          refine ⟨0, [], _, left - 1, none, 0, rfl, Nat.zero_le _, rfl, HQ5.out, VRow.nil _ _, HL5.out, HZ5.out, OwnU.mono HO5.out (by simp; omega), HG5.out⟩
        case round =>
          obtain ⟨q, ts, C, L, vA, vc, rfl, hq, hld, hQ, hV, hLr, hZ, hO, hG⟩ := hrel
          have HLD := Lib.hid hld
          have HQ := Lib.hid hQ
          have HVR := Lib.hid hV
          have HLR := Lib.hid hLr
          have HZR := Lib.hid hZ
          have HOR := Lib.hid hO
          have HGR := Lib.hid hG
          have hszr := hG.size
          have HTS := Lib.hid (show ts.length = q by have h1 := ldArgs_len (f := ldv h d) (ps := P) (left := left - 1) (i := q) (by rw [hld]); rw [hld] at h1; exact h1)
          have htl : ts.length ≤ 400 := by rw [HTS.out]; omega
          have hLL : 0 ≤ L ∧ L ≤ 1000000 := by
            have h1 := ldArgs_left h d P (left - 1) (by omega) q
            rw [hld] at h1
            exact ⟨h1.2 rfl, Int.le_trans h1.1 (by omega)⟩
          clear hld hQ hV hLr hZ hO hG
          by_cases hlt : q < P.length
          · obtain ⟨bk, cap, hv, hbk, hltb, _⟩ := own_form HOR.out (by omega)
            injection hv with hv1 _ hv3
            subst hv1 hv3
            have c84 : wr.cell? ⟨bk, q, none⟩ = some (.int .u64 ((nth P q : Nat) : Int)) := by
              have h1 := (show wr.ownsRow w.heap.size 27 1 (.slice (some ⟨bk, 0, none⟩) P.length qc) P.length (encU P) from HOR.out).cellAt q (by omega)
              rw [encU_get hlt] at h1
              exact h1
            have HBR := Lib.hid (below_grown HB.out HB.out.size HGR.out (fun g hg => by injection hg with hg; omega))
            have hb1 : (0 : Int) ≤ lv + 1 := by omega
            have HN := Lib.hid (HP64.out.nth q)
            have HV1 := Lib.hid (show (lv + 1) + (d : Int) = 41 by have := HLV.out; omega)
            go_wp2_with fail
            refine (IH.out (nth P q) L (lv + 1) lb wr HN.out hLL.1 hLL.2 HV1.out hb1 HLR.out hw0 HBR.out).mono ?_
            rintro e w5 ⟨⟨hL5, hg5⟩, (⟨he, cs, rfl, hval⟩ | ⟨he, rfl⟩)⟩
            · obtain ⟨k', m', s', A', n', c', rfl⟩ := isV_cells hval
              have hQ5 := HQ.out.grown hg5 (fun e => by injection e with e; omega)
              have HQ5' := Lib.hid hQ5
              have HV5 := Lib.hid (HVR.out.grown hg5 (fun k hk => by injection hk with hk; omega))
              have HL5' := Lib.hid hL5
              have HZ5' := Lib.hid (HZR.out.grown hg5 (fun e => by injection e with e; omega))
              have HO5' := Lib.hid (OwnU.grown HOR.out hg5 (fun k hk e => by injection e with e; have := (HOR.out.blk k hk).1; omega))
              have HG5' := Lib.hid hg5
              have HVAL := Lib.hid hval
              have HONE := Lib.hid (isV_one hval)
              have HSUC := Lib.hid (show ldArgs (ldv h d) P (left - 1) (q + 1) = ⟨0, ts ++ [(ldv h d (nth P q) L).val], (ldv h d (nth P q) L).left⟩ by
                rw [ldArgs_succ (by rw [HLD.out]), HLD.out]
                rw [if_neg (by simp [he])])
              obtain ⟨i0, hi, jz0, jz1, jz2⟩ := info_parts infoVal
              obtain ⟨y0, y1, y2, y3, yf, yz⟩ := hQ5
              have hz5' := hg5.size
              have HRB := Lib.hid (fun k (hk : (Value.slice vA ts.length vc).ownBlock = some k) => HVR.out.row.lt k hk)
              clear hL5 hg5 hval he c84
              go_wp2_with (at_builtin; go_loud (refine wpList_append_own_at _ rfl _ _ 44 rfl (oB + 1) 90 i0 _ 4 56 Try.underlying44 hi jz0 jz1 jz2 rfl (by omega) (.slice vA ts.length vc) ts.length (flatC C ts.length) rfl ((HV5.out.row.alloc _).alloc _) ⟨w5.heap.size + 1, 0, none⟩ 1 1 [.int .i64 k', .int .i64 m', .string s', .slice A' n' c'] rfl rfl (cell_newL _ _ _ _ (by simp)) HONE.out (by unfold maxLen; omega) (by omega) (by simp; omega) ?_; intro v6 w6 hq6 hg6 _ hat6; obtain ⟨A6, d6, rfl, -, -, -⟩ := own_any hq6; have HQ6 := Lib.hid hq6; have HG6 := Lib.hid hg6; have HA6 := Lib.hid hat6; have hW6 := (HQ5'.out.grown (World.grownBy_alloc w5 (.cells #[.int .i64 k', .int .i64 m', .string s', .slice A' n' c'] 90) none) (by simp)).grown (grown_step (World.grownBy_alloc _ _ _) hg6 (.inl rfl)) (fun e => by have := (HRB.out _ e).1; omega); have HW6 := Lib.hid hW6; have e63 : w6.cell? ⟨oB, 3, none⟩ = some (.slice vA ts.length vc) := hW6.c3; have e6f := hW6.fr; clear hq6 hg6 hat6 hW6 y0 y1 y2 y3 yf yz))
              have hg56 : w5.grownBy w6 (Value.slice vA ts.length vc).ownBlock := grown_step (World.grownBy_alloc w5 _ _) (grown_step (World.grownBy_alloc _ _ _) HG6.out (.inl rfl)) (.inl rfl)
              have hnl : (Value.slice vA ts.length vc).ownBlock ≠ some lb := fun e => by have := (HRB.out _ e).1; omega
              have hnz : (Value.slice vA ts.length vc).ownBlock ≠ some w.heap.size := fun e => by have := (HRB.out _ e).1; omega
              have hno : some oB ≠ some lb := fun e => by injection e with e; omega
              have hnoz : some oB ≠ some w.heap.size := fun e => by injection e with e; omega
              have hz56 := hg56.size
              go_roundw
              case rel =>
                refine ⟨q + 1, ts ++ [(ldv h d (nth P q) L).val], updC C ts.length [.int .i64 k', .int .i64 m', .string s', .slice A' n' c'], (ldv h d (nth P q) L).left, A6, d6, by go_num, by omega, HSUC.out, ?_, ?_, ((HL5'.out.grown hg56 hnl).grown (grown_set (grown_self _ _) _) hno), ((HZ5'.out.grown hg56 hnz).grown (grown_set (grown_self _ _) _) hnoz), ?_, ?_⟩
                · rw [List.length_append]
                  exact HW6.out.put _
                · rw [List.length_append]
                  refine VRow.grown (VRow.snoc ((HV5.out.grown (World.grownBy_alloc w5 _ none) (fun k hk => by cases hk)).grown (World.grownBy_alloc _ _ none) (fun k hk => by cases hk)) (ldv h d (nth P q) L).val [.int .i64 k', .int .i64 m', .string s', .slice A' n' c'] rfl HG6.out HQ6.out ?_ ?_) (grown_set (grown_self _ _) _) (fun k hk => by injection hk with hk; omega)
                  · rcases HA6.out with e | e
                    · exact .inl e
                    · exact .inr ⟨_, e, by simp⟩
                  · exact isV_frame (by simp; omega) (fun b hb hl => by
                      have hb' : wr.heap.size ≤ b := hb
                      have hq := HQ.out.sz
                      have hh : ((w5.alloc (.cells #[.int .i64 k', .int .i64 m', .string s', .slice A' n' c'] 90)).alloc (.cells #[.int .i64 k', .int .i64 m', .string s', .slice A' n' c'] 90)).heap[b]? = w5.heap[b]? := (Below.heap_alloc _ _ _ (by simp; omega)).trans (Below.heap_alloc _ _ _ hl)
                      exact ⟨⟨by omega, fun e => by have := (HRB.out b e.symm).2; omega⟩, hh⟩) HVAL.out
                · refine own_grown (OwnU.grown HO5'.out hg56 (fun k hk e => ?_)) (grown_set (grown_self _ _) _) (fun k hk e => ?_)
                  · have h1 := (HRB.out k e).1
                    have h2 := HPB.out k hk
                    omega
                  · injection e with e
                    have h2 := HPB.out k hk
                    omega
                · refine grown_setN (grown_step (grown_step HGR.out HG5'.out (.inl rfl)) hg56 (.inr fun k hk => ?_)) (by omega) _
                  have := (HRB.out k hk).1
                  omega
              case measure => simp [intOf]; omega
            · have HF := Lib.hid (show ldv h (d + 1) x left = ⟨(ldv h d (nth P q) L).err, .none, (ldv h d (nth P q) L).left⟩ by
                rw [HRN.out, ldArgs_fail (i := q) (by rw [HLD.out]) (by rw [HLD.out]; exact he) hlt, HLD.out]
                unfold ldNode
                rw [if_pos he])
              have hz5 := HZR.out.grown hg5 (fun e => by injection e with e; omega)
              have HL5' := Lib.hid hL5
              have HG5' := Lib.hid (grown_step HGR.out hg5 (.inl rfl))
              have HE := Lib.hid he
              obtain ⟨er, her⟩ : ∃ er, er = (ldv h d (nth P q) L).err := ⟨_, rfl⟩
              have HER := Lib.hid her
              rw [← her]
              have x00 : (er != 0) = true := by rw [her]; simpa using he
              obtain ⟨z0, z1, z2, z3, zf, zz⟩ := hz5
              have x0 : (w5.cell? ⟨w.heap.size, 0, none⟩).isSome = true := by rw [z0]; rfl
              have x1 : (w5.cell? ⟨w.heap.size, 1, none⟩).isSome = true := by rw [z1]; rfl
              have x2 : (w5.cell? ⟨w.heap.size, 2, none⟩).isSome = true := by rw [z2]; rfl
              have x3 : (w5.cell? ⟨w.heap.size, 3, none⟩).isSome = true := by rw [z3]; rfl
              clear hL5 hg5 he her c84
              go_wp2_with fail
              refine bodyPost_ret (v := .tuple #[.agg #[.int .i64 0, .int .i64 0, .string ⟨#[]⟩, .slice none 0 0], .int .i64 er]) (by simp [results, Try.results74, go_sem, x0, x1, x2, x3, zz]) rfl ?_
              rw [HF.out]
              obtain ⟨f1, f2⟩ := ld_fin HL5'.out HG5'.out HLZ.out (.int .i64 0) (.int .i64 0) (.string ⟨#[]⟩) (.slice none 0 0)
              exact ⟨⟨f1.below ((Below.refl _ _).alloc (Nat.le_refl _) _), grown_alloc f2 _⟩, .inr ⟨HE.out, by rw [HER.out]⟩⟩
          · obtain rfl : q = P.length := by omega
            obtain ⟨y0, y1, y2, y3, yf, yz⟩ := HQ.out
            obtain ⟨z0, z1, z2, z3, zf, zz⟩ := HZR.out
            have x0 : (wr.cell? ⟨w.heap.size, 0, none⟩).isSome = true := by rw [z0]; rfl
            have x1 : (wr.cell? ⟨w.heap.size, 1, none⟩).isSome = true := by rw [z1]; rfl
            have x2 : (wr.cell? ⟨w.heap.size, 2, none⟩).isSome = true := by rw [z2]; rfl
            have x3 : (wr.cell? ⟨w.heap.size, 3, none⟩).isSome = true := by rw [z3]; rfl
            go_wp2_with fail
            refine bodyPost_ret (v := .tuple #[.agg #[.int .i64 (kindsF K), .int .i64 M, .string T, .slice vA ts.length vc], .int .i64 0]) (by simp [results, Try.results74, go_sem, x0, x1, x2, x3]) rfl ?_
            rw [HRN.out, HLD.out]
            obtain ⟨f1, f2⟩ := ld_fin HLR.out HGR.out HLZ.out (.int .i64 (kindsF K)) (.int .i64 M) (.string T) (.slice vA ts.length vc)
            refine ⟨⟨f1, f2⟩, .inl ⟨rfl, _, rfl, ?_⟩⟩
            have h1 := HVR.out.isV (kindsF K) M T
            exact isV_grown (h1 : (VT.node (kindsF K) M T ts.length (fun i => ts.getD i .none)).isV wr _ _) (ans4_grown wr w.heap.size (.int .i64 (kindsF K)) (.int .i64 M) (.string T) (.slice vA ts.length vc)) (fun b hb _ => ⟨fun e => by injection e with e; omega, by omega⟩)
      · have HR := Lib.hid (show ldv h (d + 1) x left = ⟨errA h a, .none, left - 1⟩ by rw [HRA.out, if_neg (fun hh => hno3 ⟨a, rfl, readsV_iff.1 hh⟩)])
        have HYE := Lib.hid hye
        have HY := Lib.hid hy
        have hb23 := (Below.refl w2.heap.size w2).alloc (Nat.le_refl _) (.cells #[.int .i64 0, .int .i64 0, .string ⟨#[]⟩, .slice none 0 0] 90)
        have hb3' := hb23.trans (hb3.mono (by simp))
        have HL3 := Lib.hid (HL2.out.below hb3')
        have hz3 := HZ2.out.below hb3'
        have HG3 := Lib.hid (grown_step HG2.out (grown_below (g := none) hb3') (.inr (by simp)))
        have x00 : (y != 0) = true := by simpa using hy
        clear hy hye hno3 hb3 hb23 hb3' z0 z1 z2 z3 zf zz m0 m1 mf mz
        obtain ⟨z0, z1, z2, z3, zf, zz⟩ := hz3
        have x0 : (w3.cell? ⟨w.heap.size, 0, none⟩).isSome = true := by rw [z0]; rfl
        have x1 : (w3.cell? ⟨w.heap.size, 1, none⟩).isSome = true := by rw [z1]; rfl
        have x2 : (w3.cell? ⟨w.heap.size, 2, none⟩).isSome = true := by rw [z2]; rfl
        have x3 : (w3.cell? ⟨w.heap.size, 3, none⟩).isSome = true := by rw [z3]; rfl
        go_wp2_with fail
        refine bodyPost_ret (v := .tuple #[.agg #[.int .i64 0, .int .i64 0, .string ⟨#[]⟩, .slice none 0 0], .int .i64 y]) (by simp [results, Try.results74, go_sem, x0, x1, x2, x3, zz]) rfl ?_
        rw [HR.out]
        obtain ⟨f1, f2⟩ := ld_fin HL3.out HG3.out HLZ.out (.int .i64 0) (.int .i64 0) (.string ⟨#[]⟩) (.slice none 0 0)
        exact ⟨⟨f1.below ((Below.refl _ _).alloc (Nat.le_refl _) _), grown_alloc f2 _⟩, .inr ⟨errA_ne _ _, by rw [HYE.out]⟩⟩
theorem ld_any (h : List Nat) (hA : Option Addr) (hc : Nat) (w0 : World) (hS : Su w0 (.slice hA h.length hc) h) (h64 : All64 h) (hlen : h.length ≤ 17592186044416) : ∀ d, LdOk h (.slice hA h.length hc) w0 d := by
  intro d
  induction d with
  | zero => exact ld_zero _ _ _
  | succ d ih => exact ld_succ h hA hc w0 d hS h64 hlen ih
/-- what Read answers -/
def ReadVPost (r : LdR) (w : World) (e : Ending) (w' : World) : Prop :=
  Below w.heap.size w w' ∧ ((r.err = 0 ∧ ∃ cs, e = .returned (.tuple #[.agg cs.toArray, .int .i64 0]) ∧ r.val.isV w' (fun b => w.heap.size ≤ b) cs) ∨ (r.err ≠ 0 ∧ e = .returned (.tuple #[.agg #[.int .i64 0, .int .i64 0, .string ⟨#[]⟩, .slice none 0 0], .int .i64 r.err])))
set_option maxHeartbeats 4000000 in
set_option maxRecDepth 100000 in
theorem Read_any (h : List Nat) (hA : Option Addr) (hc x : Nat) (w : World) (hS : Su w (.slice hA h.length hc) h) (h64 : All64 h) (hlen : h.length ≤ 17592186044416) (hx : x < 18446744073709551616) :
    Calls Try.prog 49 #[.slice hA h.length hc, .int .u64 (x : Int)] w (ReadVPost (ldv h 40 x 400) w) := by
  have HLD := Lib.hid (ld_any h hA hc w hS h64 hlen 40)
  have HX := Lib.hid hx
  clear hS h64 hx
  obtain ⟨W1, hW1⟩ : ∃ W1, W1 = (w.alloc (.cells #[.int .i64 0, .int .i64 0, .string ⟨#[]⟩, .slice none 0 0] 90)).alloc (.cells #[.slice hA h.length hc, .int .i64 400] 143) := ⟨_, rfl⟩
  have HB1 := Lib.hid (show Below w.heap.size w W1 by rw [hW1]; exact ((Below.refl _ _).alloc (Nat.le_refl _) _).alloc (by simp) _)
  have HL1 := Lib.hid (show LB W1 (w.heap.size + 1) (.slice hA h.length hc) 400 by
    rw [hW1]
    constructor
    · simp [go_sem]
    · simp [go_sem]
    · intro o; simp [go_sem]
    · simp)
  have HZ1 := Lib.hid (show ZB W1 w.heap.size by
    rw [hW1]
    constructor
    any_goals (first | simp [go_sem] | (intro o; simp [go_sem])))
  obtain ⟨R, hR⟩ : ∃ R, R = ldv h 40 x 400 := ⟨_, rfl⟩
  have HR := Lib.hid hR
  rw [← hR]
  clear hR
  go_enter Try.func49, Try.ntmps49
  go_wp2_with fail
  rw [← hW1]
  clear hW1
  refine (HLD.out x 400 1 (w.heap.size + 1) W1 HX.out (by omega) (by omega) (by omega) (by omega) HL1.out (by omega) HB1.out).mono ?_
  rw [← HR.out]
  rintro e w2 ⟨⟨hL2, hg2⟩, (⟨he, cs, rfl, hval⟩ | ⟨he, rfl⟩)⟩
  · have hz2 := HZ1.out.grown hg2 (fun e => by injection e with e; omega)
    have HB2 := Lib.hid (below_grown HB1.out HB1.out.size hg2 (fun g hg => by injection hg with hg; omega))
    have HVAL := Lib.hid hval
    have HE := Lib.hid he
    have hs1 := HB1.out.size
    have hs2 := HL1.out.sz
    obtain ⟨k', m', s', A', n', c', rfl⟩ := isV_cells hval
    obtain ⟨z0, z1, z2, z3, zf, zz⟩ := hz2
    have x0 : (w2.cell? ⟨w.heap.size, 0, none⟩).isSome = true := by rw [z0]; rfl
    have x1 : (w2.cell? ⟨w.heap.size, 1, none⟩).isSome = true := by rw [z1]; rfl
    have x2 : (w2.cell? ⟨w.heap.size, 2, none⟩).isSome = true := by rw [z2]; rfl
    have x3 : (w2.cell? ⟨w.heap.size, 3, none⟩).isSome = true := by rw [z3]; rfl
    clear hL2 hg2 hval he
    go_wp2_with fail
    refine bodyPost_ret (v := .tuple #[.agg #[.int .i64 k', .int .i64 m', .string s', .slice A' n' c'], .int .i64 0]) (by simp [results, Try.results49, go_sem, x0, x1, x2, x3]) rfl ?_
    have hg := ans4_grown w2 w.heap.size (.int .i64 k') (.int .i64 m') (.string s') (.slice A' n' c')
    refine ⟨below_grown HB2.out HB2.out.size hg (fun g hg => by injection hg with hg; omega), .inl ⟨HE.out, _, rfl, isV_grown HVAL.out hg (fun b hb _ => ?_)⟩⟩
    have hb' : W1.heap.size ≤ b := hb
    exact ⟨fun e => by injection e with e; omega, by omega⟩
  · have hz2 := HZ1.out.grown hg2 (fun e => by injection e with e; omega)
    have HB2 := Lib.hid (below_grown HB1.out HB1.out.size hg2 (fun g hg => by injection hg with hg; omega))
    have HE := Lib.hid he
    obtain ⟨er, her⟩ : ∃ er, er = R.err := ⟨_, rfl⟩
    have HER := Lib.hid her
    rw [← her]
    obtain ⟨z0, z1, z2, z3, zf, zz⟩ := hz2
    have x0 : (w2.cell? ⟨w.heap.size, 0, none⟩).isSome = true := by rw [z0]; rfl
    have x1 : (w2.cell? ⟨w.heap.size, 1, none⟩).isSome = true := by rw [z1]; rfl
    have x2 : (w2.cell? ⟨w.heap.size, 2, none⟩).isSome = true := by rw [z2]; rfl
    have x3 : (w2.cell? ⟨w.heap.size, 3, none⟩).isSome = true := by rw [z3]; rfl
    clear hL2 hg2 he her
    go_wp2_with fail
    refine bodyPost_ret (v := .tuple #[.agg #[.int .i64 0, .int .i64 0, .string ⟨#[]⟩, .slice none 0 0], .int .i64 er]) (by simp [results, Try.results49, go_sem, x0, x1, x2, x3]) rfl ?_
    have hg := ans4_grown w2 w.heap.size (.int .i64 0) (.int .i64 0) (.string ⟨#[]⟩) (.slice none 0 0)
    exact ⟨below_grown HB2.out HB2.out.size hg (fun g hg => by injection hg with hg; omega), .inr ⟨HE.out, by rw [HER.out]⟩⟩
end Go.Proofs.Ytkdbnkkdohkhjaa
