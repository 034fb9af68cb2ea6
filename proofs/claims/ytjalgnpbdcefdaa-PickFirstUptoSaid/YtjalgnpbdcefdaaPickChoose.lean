/- pick.Choose and its asking function. -/
import Derived.Test.YtjalgnpbdcefdaaPickArms
import Derived.BigRegion
namespace Go.Proofs.Ytjalgnpbdcefdaa
open Go.RowKit
set_option linter.unusedVariables false
/-- the last answer of the asking function -/
def lastOf (l : Nat → VT) (n : Nat) (L : List VT) : Int := match L.getLast? with
  | none => -1
  | some t => firstOf l t n
theorem lastOf_snoc (l : Nat → VT) (n : Nat) (L : List VT) (t : VT) : lastOf l n (L ++ [t]) = firstOf l t n := by simp [lastOf]
/-- the state of the asking function: the patterns, and the last answer -/
structure ChI (B b1 b2 : Nat) (A : Option Addr) (n c : Nat) (l : Nat → VT) (L : List VT) (W : World) : Prop where
  pats : W.cell? ⟨b1, 0, none⟩ = some (.slice A n c)
  which : W.cell? ⟨b2, 0, none⟩ = some (.int .i64 (lastOf l n L))
  free : W.frozen? ⟨b2, 0, none⟩ = false
  rd : RdV W (fun b => b < B ∧ b ≠ b2) A n l
theorem lastOf_asks (l : Nat → VT) (m : Nat) (arg : Nat → LT) {a i : Nat} (h : a ≤ i) : lastOf l m (asks arg a (i + 1)) = firstOf l (arg i).says m := by rw [asks_succ arg h, lastOf_snoc]
theorem lastOf_no (l : Nat → VT) (m : Nat) (arg : Nat → LT) {a n : Nat} (h : ∀ j, a ≤ j → j < n → firstOf l (arg j).says m < 0) (han : a ≤ n) : lastOf l m (asks arg a n) = -1 := by
  by_cases e : a = n
  · subst e; rw [asks_self]; rfl
  · obtain ⟨k, rfl⟩ : ∃ k, n = k + 1 := ⟨n - 1, by omega⟩
    rw [lastOf_asks l m arg (by omega)]
    have h1 := h k (by omega) (by omega)
    have h2 := (firstOf_range l (arg k).says m).1
    omega
def chQ (l : Nat → VT) (n : Nat) (t : VT) : Bool := decide (0 ≤ firstOf l t n)
theorem asker_enters : Enters Try.prog 46 := fun _ _ => by kernel_rfl
set_option maxRecDepth 100000 in
set_option maxHeartbeats 4000000 in
theorem asker_any (B b1 b2 : Nat) (A : Option Addr) (n c : Nat) (l : Nat → VT) (h1 : b1 < B) (h2 : b2 < B) (h12 : b1 ≠ b2) (hn : n ≤ 4194304) (hlm : ∀ i, i < n → (l i).many ≤ 4194304) :
    TakesOk B 46 #[.pointer (some ⟨b1, 0, none⟩), .pointer (some ⟨b2, 0, none⟩)] (chQ l n) (some b2) (ChI B b1 b2 A n c l) where
  enters := asker_enters
  low := fun k hk => by injection hk with hk; omega
  keep := fun L W W' hI hB hb => ⟨(hb.cell (p := ⟨b1, 0, none⟩) h1).trans hI.pats, (hb.cell (p := ⟨b2, 0, none⟩) h2).trans hI.which, (hb.frozen (p := ⟨b2, 0, none⟩) h2).trans hI.free, hI.rd.frame (Nat.le_trans (Nat.le_refl _) hb.size) (fun b hs hl => ⟨hs, hb.block b hs.1⟩)⟩
  call := fun L t cs S W hI ht hm hB => by
    obtain ⟨pats, which, free, rd⟩ := hI
    have HBB := Lib.hid (show ∀ o, Below W.heap.size W (W.alloc o) from fun o => (Below.refl W.heap.size W).alloc (Nat.le_refl _) _)
    have HC := Lib.hid (fun o => pickFirst_any n c A l t cs _ S (W.alloc o) hn (rd.below (HBB.out o)) (isV_below ht (HBB.out o)) hlm hm)
    have HRD := Lib.hid rd
    have HQ := Lib.hid (show chQ l n t = decide (0 ≤ firstOf l t n) from rfl)
    have HF := Lib.hid (firstOf_range l t n)
    have HLS := Lib.hid (lastOf_snoc l n L t)
    obtain ⟨k2, m2, s2, A2, n2, c2, rfl⟩ := isV_cells ht
    have q1 : b1 < W.heap.size := by omega
    have q2 : b2 < W.heap.size := by omega
    obtain ⟨F, hF⟩ : ∃ F, firstOf l t n = F := ⟨_, rfl⟩
    rw [hF] at HC HQ HF HLS
    clear ht rd hlm hF
    go_enter Try.func46, Try.ntmps46
    go_wp2_with fail
    refine (HC.out _).mono ?_
    rintro e w1 ⟨rfl, hb1⟩
    have HB1 := Lib.hid ((HBB.out _).trans (hb1.mono (by simp)))
    have z1 := (HB1.out.cell (p := ⟨b1, 0, none⟩) q1).trans pats
    have z2 := (HB1.out.cell (p := ⟨b2, 0, none⟩) q2).trans which
    have z3 := (HB1.out.frozen (p := ⟨b2, 0, none⟩) q2).trans free
    have q3 : b2 < w1.heap.size := by have := HB1.out.size; omega
    clear hb1 pats which free
    go_wp2_with fail
    go_ret
    have hgr : W.grownBy (w1.setCell ⟨b2, 0, none⟩ (.int .i64 F)) (some b2) := grown_set (grown_step (grown_self W _) (grown_below (g := none) HB1.out) (.inr (by simp))) _
    refine ⟨ret_b (by rw [HQ.out]), ⟨?_, ?_, ?_, ?_⟩, hgr⟩
    · rw [World.cell?_of_block (a := ⟨b1, 0, none⟩) (heap_setCell_other w1 ⟨b2, 0, none⟩ b1 _ h12)]
      exact z1
    · rw [HLS.out]
      exact World.cell?_setCell_same w1 _ _ z2
    · simpa using z3
    · exact HRD.out.frame hgr.size (fun b hs hl => ⟨hs, hgr.block b hl (fun e => by injection e with e; exact hs.2 e)⟩)
theorem RdL_grown {w w' : World} {S S' : Nat → Prop} {A : Option Addr} {n : Nat} {arg : Nat → LT} {row : Option Nat} (h : RdL w S A n arg) (hg : w.grownBy w' row) (hS : ∀ b, S b → b < w.heap.size → some b ≠ row ∧ S' b) : RdL w' S' A n arg :=
  h.frame hg.size (fun b hs hl => ⟨(hS b hs hl).2, hg.block b hl (hS b hs hl).1⟩)
theorem blk_drew {W wr : World} {b : Nat} (h : W.heap[b]? = wr.heap[b]?) : W.drew.heap[b]? = wr.heap[b]? := h
/-- what Choose answers -/
def ChooseYes (n a : Nat) (arg : Nat → LT) (l : Nat → VT) (m : Nat) (w : World) (e : Ending) (w' : World) : Prop :=
  ∃ i, a ≤ i ∧ i < n ∧ (∀ j, a ≤ j → j < i → firstOf l (arg j).says m < 0) ∧ 0 ≤ firstOf l (arg i).says m ∧ ∃ A c xs, e = .returned (.tuple #[.agg #[.slice A (n - 1) c, .int .i64 0], .agg xs.toArray, .int .i64 (firstOf l (arg i).says m), .int .i64 0]) ∧
    n - 1 ≤ c ∧ c ≤ 9223372036854775807 ∧ RdL w' (fun b => w.heap.size ≤ b) A (n - 1) (cutA arg i) ∧ (arg i).isL w' (fun b => w.heap.size ≤ b) xs
def ChooseNo (n a : Nat) (arg : Nat → LT) (l : Nat → VT) (m : Nat) (w : World) (e : Ending) (w' : World) : Prop :=
  (∀ j, a ≤ j → j < n → firstOf l (arg j).says m < 0) ∧ ∃ A c, e = .returned (.tuple #[.agg #[.slice A n c, .int .i64 (n : Int)], zeroL, .int .i64 (-1), .int .i64 0]) ∧ n ≤ c ∧ c ≤ 9223372036854775807 ∧ RdL w' (fun b => w.heap.size ≤ b) A n arg
def ChooseErr (e : Ending) : Prop := ∃ x : Int, x ≠ 0 ∧ e = .returned (.tuple #[.agg #[.slice none 0 0, .int .i64 0], zeroL, .int .i64 0, .int .i64 x])
def ChoosePost (n : Nat) (at_ : Int) (arg : Nat → LT) (l : Nat → VT) (m : Nat) (w : World) (e : Ending) (w' : World) : Prop :=
  Below w.heap.size w w' ∧ ((¬ OkBox n at_ arg ∧ ChooseErr e) ∨ (OkBox n at_ arg ∧ (ChooseYes n at_.toNat arg l m w e w' ∨ ChooseNo n at_.toNat arg l m w e w')))
/-- the boxes of Choose -/
structure KC (wx : World) (b : Nat) : Prop where
  r0 : wx.cell? ⟨b + 2, 0, none⟩ = some (.slice none 0 0)
  r1 : wx.cell? ⟨b + 2, 1, none⟩ = some (.int .i64 0)
  rf : ∀ o, wx.frozen? ⟨b + 2, o, none⟩ = false
  y0 : wx.cell? ⟨b + 3, 0, none⟩ = some (.int .i64 0)
  y1 : wx.cell? ⟨b + 3, 1, none⟩ = some (.int .i64 0)
  y2 : wx.cell? ⟨b + 3, 2, none⟩ = some (.int .i64 0)
  y3 : wx.cell? ⟨b + 3, 3, none⟩ = some (.int .i64 0)
  y4 : wx.cell? ⟨b + 3, 4, none⟩ = some (.string ⟨#[]⟩)
  y5 : wx.cell? ⟨b + 3, 5, none⟩ = some (.int .i64 0)
  y6 : wx.cell? ⟨b + 3, 6, none⟩ = some (.int .i64 0)
  y7 : wx.cell? ⟨b + 3, 7, none⟩ = some (.string ⟨#[]⟩)
  y8 : wx.cell? ⟨b + 3, 8, none⟩ = some (.slice none 0 0)
  yf : ∀ o, wx.frozen? ⟨b + 3, o, none⟩ = false
  sz : b + 5 ≤ wx.heap.size
theorem KC.grown {wx wy : World} {b : Nat} (h : KC wx b) (hg : wx.grownBy wy (some (b + 4))) : KC wy b := by
  have hz := h.sz
  have k0 : ∀ j o, j < 4 → wy.cell? ⟨b + j, o, none⟩ = wx.cell? ⟨b + j, o, none⟩ := fun j o hj => grown_cell hg (by omega) (fun e => by injection e with e; omega)
  have k1 : ∀ j o, j < 4 → wy.frozen? ⟨b + j, o, none⟩ = wx.frozen? ⟨b + j, o, none⟩ := fun j o hj => grown_frozen hg (by omega) (fun e => by injection e with e; omega)
  exact ⟨(k0 2 0 (by omega)).trans h.r0, (k0 2 1 (by omega)).trans h.r1, fun o => (k1 2 o (by omega)).trans (h.rf o),
    (k0 3 0 (by omega)).trans h.y0, (k0 3 1 (by omega)).trans h.y1, (k0 3 2 (by omega)).trans h.y2, (k0 3 3 (by omega)).trans h.y3, (k0 3 4 (by omega)).trans h.y4, (k0 3 5 (by omega)).trans h.y5, (k0 3 6 (by omega)).trans h.y6, (k0 3 7 (by omega)).trans h.y7, (k0 3 8 (by omega)).trans h.y8, fun o => (k1 3 o (by omega)).trans (h.yf o), by have := hg.size; omega⟩
set_option maxRecDepth 100000 in
set_option maxHeartbeats 8000000 in
theorem choose_any (n c : Nat) (A : Option Addr) (at_ : Int) (arg : Nat → LT) (m d : Nat) (A2 : Option Addr) (l : Nat → VT) (S S2 : Nat → Prop) (w : World) (hnc : n ≤ c) (hcm : c ≤ 9223372036854775807) (hR : RdL w S A n arg) (hm : ∀ i, i < n → (arg i).val.many ≤ 4194304)
    (hl : RdV w S2 A2 m l) (hmn : m ≤ 4194304) (hlm : ∀ i, i < m → (l i).many ≤ 4194304) :
    Calls Try.prog 28 #[.agg #[.slice A n c, .int .i64 at_], .slice A2 m d] w (ChoosePost n at_ arg l m w) := by
  have HR := Lib.hid hR
  have HM := Lib.hid hm
  have HL := Lib.hid hl
  have HLM := Lib.hid hlm
  clear hR hm hl hlm
  obtain ⟨W0, hW0⟩ : ∃ W0, W0 = ((((w.alloc (.cells #[.slice A n c, .int .i64 at_] 38)).alloc (.cells #[.slice A2 m d] 22)).alloc (.cells #[.slice none 0 0, .int .i64 0] 38)).alloc (.cells #[.int .i64 0, .int .i64 0, .int .i64 0, .int .i64 0, .string ⟨#[]⟩, .int .i64 0, .int .i64 0, .string ⟨#[]⟩, .slice none 0 0] 44)).alloc (.cells #[.int .i64 (-1)] 3) := ⟨_, rfl⟩
  have HB0 := Lib.hid (show Below w.heap.size w W0 by rw [hW0]; exact (((((Below.refl _ _).alloc (Nat.le_refl _) _).alloc (by simp) _).alloc (by simp; omega) _).alloc (by simp; omega) _).alloc (by simp; omega) _)
  have HZ0 := Lib.hid (show W0.heap.size = w.heap.size + 5 by rw [hW0]; simp)
  have HK0 := Lib.hid (show KC W0 w.heap.size by
    rw [hW0]
    constructor
    any_goals (first | simp [go_sem] | (intro o; simp [go_sem])))
  have HI0 := Lib.hid (show ChI (w.heap.size + 5) (w.heap.size + 1) (w.heap.size + 4) A2 m d l [] W0 from by
    refine ⟨by rw [hW0]; simp [go_sem], by rw [hW0]; simp [go_sem, lastOf], by rw [hW0]; simp [go_sem], HL.out.frame HB0.out.size (fun b _ hlt => ⟨⟨by omega, by omega⟩, HB0.out.block b hlt⟩)⟩)
  have HT := Lib.hid ((take_any n c A at_ arg S (w.heap.size + 5) 46 #[.pointer (some ⟨w.heap.size + 1, 0, none⟩), .pointer (some ⟨w.heap.size + 4, 0, none⟩)] (chQ l m) [] (some (w.heap.size + 4)) (ChI (w.heap.size + 5) (w.heap.size + 1) (w.heap.size + 4) A2 m d l) W0 hnc hcm (HR.out.below HB0.out) HM.out
    (asker_any _ _ _ A2 m d l (by omega) (by omega) (by omega) hmn HLM.out) HI0.out (by rw [HZ0.out]; exact Nat.le_refl _)))
  go_enter Try.func28, Try.ntmps28
  go_wp2_with fail
  rw [← hW0]
  clear hW0
  simp only [Nat.add_assoc, Nat.reduceAdd]
  refine HT.out.mono ?_
  rintro e w1 (⟨hno, x, hx, rfl, hI, hg⟩ | ⟨hok, ⟨i, hai, hin, hlow, hat, A', c', xs, rfl, hnc', hcm', hrd, hisl, hI, hg⟩ | ⟨hlow, A', c', rfl, hnc', hcm', hrd, hI, hg⟩⟩)
  · have HK1 := Lib.hid (HK0.out.grown hg)
    have HB1 := Lib.hid (HB0.out.grown hg HB0.out.size (fun k hk => by injection hk with hk; omega))
    have e0 : (x != 0) = true := by simpa using hx
    have HX := Lib.hid (And.intro hno hx)
    clear hno hx hI hg
    obtain ⟨r0, r1, rf, y0, y1, y2, y3, y4, y5, y6, y7, y8, yf, hz⟩ := HK1.out
    have x0 : (w1.cell? ⟨w.heap.size + 2, 0, none⟩).isSome = true := by rw [r0]; rfl
    have x1 : (w1.cell? ⟨w.heap.size + 2, 1, none⟩).isSome = true := by rw [r1]; rfl
    have s0 : (w1.cell? ⟨w.heap.size + 3, 0, none⟩).isSome = true := by rw [y0]; rfl
    have s1 : (w1.cell? ⟨w.heap.size + 3, 1, none⟩).isSome = true := by rw [y1]; rfl
    have s2 : (w1.cell? ⟨w.heap.size + 3, 2, none⟩).isSome = true := by rw [y2]; rfl
    have s3 : (w1.cell? ⟨w.heap.size + 3, 3, none⟩).isSome = true := by rw [y3]; rfl
    have s4 : (w1.cell? ⟨w.heap.size + 3, 4, none⟩).isSome = true := by rw [y4]; rfl
    have s5 : (w1.cell? ⟨w.heap.size + 3, 5, none⟩).isSome = true := by rw [y5]; rfl
    have s6 : (w1.cell? ⟨w.heap.size + 3, 6, none⟩).isSome = true := by rw [y6]; rfl
    have s7 : (w1.cell? ⟨w.heap.size + 3, 7, none⟩).isSome = true := by rw [y7]; rfl
    have s8 : (w1.cell? ⟨w.heap.size + 3, 8, none⟩).isSome = true := by rw [y8]; rfl
    have hz4 : w.heap.size + 2 < w1.heap.size := by omega
    have hz5 : w.heap.size + 3 < w1.heap.size := by omega
    have FIN := Lib.hid (show ∀ W', Below w.heap.size w W' → ChoosePost n at_ arg l m w (.returned (.tuple #[.agg #[.slice none 0 0, .int .i64 0], .agg #[.int .i64 0, .int .i64 0, .int .i64 0, .int .i64 0, .string ⟨#[]⟩, .int .i64 0, .int .i64 0, .string ⟨#[]⟩, .slice none 0 0], .int .i64 0, .int .i64 x])) W' from fun W' hb => ⟨hb, .inl ⟨HX.out.1, x, HX.out.2, rfl⟩⟩)
    unfold zeroL
    go_wp2_with fail
    refine bodyPost_ret (v := .tuple #[.agg #[.slice none 0 0, .int .i64 0], .agg #[.int .i64 0, .int .i64 0, .int .i64 0, .int .i64 0, .string ⟨#[]⟩, .int .i64 0, .int .i64 0, .string ⟨#[]⟩, .slice none 0 0], .int .i64 0, .int .i64 x]) (by simp [results, Try.results28, go_sem, World.cell?_alloc_past, hz4, hz5, x0, x1, s0, s1, s2, s3, s4, s5, s6, s7, s8]) rfl ?_
    refine FIN.out _ ?_
    refine Below.alloc (Below.alloc ?_ (by simp; omega) _) (by simp; omega) _
    iterate 11 (refine below_set ?_ (by omega))
    exact HB1.out
  · obtain ⟨k2, m2, sx, A3, n3, c3, rfl, hv3⟩ := hisl
    have wch := hI.which
    rw [List.nil_append, lastOf_asks l m arg hai] at wch
    have HSL := Lib.hid (show (arg i).isL w1 (fun b => W0.heap.size ≤ b) [.int .i64 (arg i).kind, .int .i64 (arg i).frm, .int .i64 (arg i).to, .int .i64 (arg i).num, .string (arg i).text, .int .i64 k2, .int .i64 m2, .string sx, .slice A3 n3 c3] from ⟨_, _, _, _, _, _, rfl, hv3⟩)
    have HLW := Lib.hid (show (∀ j, at_.toNat ≤ j → j < i → firstOf l (arg j).says m < 0) ∧ 0 ≤ firstOf l (arg i).says m from ⟨fun j h1 h2 => by have := hlow j h1 h2; simp [chQ] at this; omega, by simpa [chQ] using hat⟩)
    obtain ⟨F, hF⟩ : ∃ F, firstOf l (arg i).says m = F := ⟨_, rfl⟩
    have HF := Lib.hid hF
    rw [hF] at wch HLW
    obtain ⟨lk, hlk⟩ : ∃ lk, (arg i).kind = lk := ⟨_, rfl⟩
    obtain ⟨lf, hlf⟩ : ∃ lf, (arg i).frm = lf := ⟨_, rfl⟩
    obtain ⟨lt, hlt⟩ : ∃ lt, (arg i).to = lt := ⟨_, rfl⟩
    obtain ⟨ln, hln⟩ : ∃ ln, (arg i).num = ln := ⟨_, rfl⟩
    obtain ⟨lx, hlx⟩ : ∃ lx, (arg i).text = lx := ⟨_, rfl⟩
    rw [hlk, hlf, hlt, hln, hlx] at HSL
    rw [hlk, hlf, hlt, hln, hlx]
    clear hF hlk hlf hlt hln hlx hlow hat hv3
    obtain ⟨W5, hW5⟩ : ∃ W5, W5 = (w1.alloc (.cells #[.slice A' (n - 1) c', .int .i64 0] 38)).alloc (.cells #[.int .i64 lk, .int .i64 lf, .int .i64 lt, .int .i64 ln, .string lx, .int .i64 k2, .int .i64 m2, .string sx, .slice A3 n3 c3] 44) := ⟨_, rfl⟩
    have HK1 := Lib.hid (HK0.out.grown hg)
    have HG5 := Lib.hid (show w1.grownBy W5 none by rw [hW5]; exact grown_alloc (grown_alloc (grown_self _ _) _) _)
    have HK5 := Lib.hid (HK1.out.grown (grown_step (grown_self w1 _) HG5.out (.inr (by simp))))
    have HB5 := Lib.hid ((HB0.out.grown hg HB0.out.size (fun k hk => by injection hk with hk; omega)).grown HG5.out (Nat.le_trans HB0.out.size hg.size) (by simp))
    have h05 := HZ0.out
    have h01 := hg.size
    have h15 := HG5.out.size
    have FIN := Lib.hid (show ∀ W', Below w.heap.size W5 W' → (∀ b, w.heap.size + 5 ≤ b → b < W5.heap.size → W'.heap[b]? = W5.heap[b]?) → ChoosePost n at_ arg l m w (.returned (.tuple #[.agg #[.slice A' (n - 1) c', .int .i64 0], .agg #[.int .i64 lk, .int .i64 lf, .int .i64 lt, .int .i64 ln, .string lx, .int .i64 k2, .int .i64 m2, .string sx, .slice A3 n3 c3], .int .i64 F, .int .i64 0])) W' from fun W' hb5 hk5 => by
      have hb := HB5.out.trans hb5
      have hsz := hb5.size
      have hk : ∀ b, w.heap.size + 5 ≤ b → b < w1.heap.size → W'.heap[b]? = w1.heap[b]? := fun b h1 h2 => (hk5 b h1 (by omega)).trans (HG5.out.block b h2 (by simp))
      exact ⟨hb, .inr ⟨hok, .inl ⟨i, hai, hin, HLW.out.1, by rw [HF.out]; exact HLW.out.2, A', c', _, by rw [HF.out], hnc', hcm', hrd.frame (Nat.le_trans h15 hsz) (fun b h1 h2 => ⟨by omega, (hk b (by omega) h2)⟩), isL_frame (Nat.le_trans h15 hsz) (fun b h1 h2 => ⟨by omega, hk b (by omega) h2⟩) HSL.out⟩⟩⟩)
    have d0 : W5.cell? ⟨w1.heap.size, 0, none⟩ = some (.slice A' (n - 1) c') := by rw [hW5]; simp
    have d1 : W5.cell? ⟨w1.heap.size, 1, none⟩ = some (.int .i64 0) := by rw [hW5]; simp
    have e0 : W5.cell? ⟨w1.heap.size + 1, 0, none⟩ = some (.int .i64 lk) := by rw [hW5]; simp
    have e1 : W5.cell? ⟨w1.heap.size + 1, 1, none⟩ = some (.int .i64 lf) := by rw [hW5]; simp
    have e2 : W5.cell? ⟨w1.heap.size + 1, 2, none⟩ = some (.int .i64 lt) := by rw [hW5]; simp
    have e3 : W5.cell? ⟨w1.heap.size + 1, 3, none⟩ = some (.int .i64 ln) := by rw [hW5]; simp
    have e4 : W5.cell? ⟨w1.heap.size + 1, 4, none⟩ = some (.string lx) := by rw [hW5]; simp
    have e5 : W5.cell? ⟨w1.heap.size + 1, 5, none⟩ = some (.int .i64 k2) := by rw [hW5]; simp
    have e6 : W5.cell? ⟨w1.heap.size + 1, 6, none⟩ = some (.int .i64 m2) := by rw [hW5]; simp
    have e7 : W5.cell? ⟨w1.heap.size + 1, 7, none⟩ = some (.string sx) := by rw [hW5]; simp
    have e8 : W5.cell? ⟨w1.heap.size + 1, 8, none⟩ = some (.slice A3 n3 c3) := by rw [hW5]; simp
    have wch5 : W5.cell? ⟨w.heap.size + 4, 0, none⟩ = some (.int .i64 F) := (grown_cell HG5.out (by omega) (by simp)).trans wch
    obtain ⟨r0, r1, rf, y0, y1, y2, y3, y4, y5, y6, y7, y8, yf, hz⟩ := HK5.out
    have x0 : (W5.cell? ⟨w.heap.size + 2, 0, none⟩).isSome = true := by rw [r0]; rfl
    have x1 : (W5.cell? ⟨w.heap.size + 2, 1, none⟩).isSome = true := by rw [r1]; rfl
    have s0 : (W5.cell? ⟨w.heap.size + 3, 0, none⟩).isSome = true := by rw [y0]; rfl
    have s1 : (W5.cell? ⟨w.heap.size + 3, 1, none⟩).isSome = true := by rw [y1]; rfl
    have s2 : (W5.cell? ⟨w.heap.size + 3, 2, none⟩).isSome = true := by rw [y2]; rfl
    have s3 : (W5.cell? ⟨w.heap.size + 3, 3, none⟩).isSome = true := by rw [y3]; rfl
    have s4 : (W5.cell? ⟨w.heap.size + 3, 4, none⟩).isSome = true := by rw [y4]; rfl
    have s5 : (W5.cell? ⟨w.heap.size + 3, 5, none⟩).isSome = true := by rw [y5]; rfl
    have s6 : (W5.cell? ⟨w.heap.size + 3, 6, none⟩).isSome = true := by rw [y6]; rfl
    have s7 : (W5.cell? ⟨w.heap.size + 3, 7, none⟩).isSome = true := by rw [y7]; rfl
    have s8 : (W5.cell? ⟨w.heap.size + 3, 8, none⟩).isSome = true := by rw [y8]; rfl
    have hz4 : w.heap.size + 2 < W5.heap.size := by omega
    have hz5 : w.heap.size + 3 < W5.heap.size := by omega
    clear wch hI hg hrd hok
    go_wp2_with fail
    rw [← hW5]
    clear hW5
    go_region
    all_goals
      go_wp2_with fail
      refine bodyPost_ret (v := .tuple #[.agg #[.slice A' (n - 1) c', .int .i64 0], .agg #[.int .i64 lk, .int .i64 lf, .int .i64 lt, .int .i64 ln, .string lx, .int .i64 k2, .int .i64 m2, .string sx, .slice A3 n3 c3], .int .i64 F, .int .i64 0]) (by simp [results, Try.results28, go_sem, x0, x1, s0, s1, s2, s3, s4, s5, s6, s7, s8]) rfl ?_
      refine FIN.out _ ?_ (fun b h1 h2 => ?_)
      · refine Below.drew ?_
        iterate 11 (refine below_set ?_ (by omega))
        exact Below.refl _ _
      · refine blk_drew ?_
        iterate 11 (refine blk_set ?_ (by omega))
        rfl
  · have hlow' : ∀ j, at_.toNat ≤ j → j < n → firstOf l (arg j).says m < 0 := fun j h1 h2 => by have := hlow j h1 h2; simp [chQ] at this; omega
    have wch := hI.which
    rw [List.nil_append, lastOf_no l m arg hlow' (by have := hok.2; omega)] at wch
    have HLW := Lib.hid hlow'
    clear hlow hlow'
    unfold zeroL
    obtain ⟨W5, hW5⟩ : ∃ W5, W5 = (w1.alloc (.cells #[.slice A' n c', .int .i64 (n : Int)] 38)).alloc (.cells #[.int .i64 0, .int .i64 0, .int .i64 0, .int .i64 0, .string ⟨#[]⟩, .int .i64 0, .int .i64 0, .string ⟨#[]⟩, .slice none 0 0] 44) := ⟨_, rfl⟩
    have HK1 := Lib.hid (HK0.out.grown hg)
    have HG5 := Lib.hid (show w1.grownBy W5 none by rw [hW5]; exact grown_alloc (grown_alloc (grown_self _ _) _) _)
    have HK5 := Lib.hid (HK1.out.grown (grown_step (grown_self w1 _) HG5.out (.inr (by simp))))
    have HB5 := Lib.hid ((HB0.out.grown hg HB0.out.size (fun k hk => by injection hk with hk; omega)).grown HG5.out (Nat.le_trans HB0.out.size hg.size) (by simp))
    have h05 := HZ0.out
    have h01 := hg.size
    have h15 := HG5.out.size
    have FIN := Lib.hid (show ∀ W', Below w.heap.size W5 W' → (∀ b, w.heap.size + 5 ≤ b → b < W5.heap.size → W'.heap[b]? = W5.heap[b]?) → ChoosePost n at_ arg l m w (.returned (.tuple #[.agg #[.slice A' n c', .int .i64 (n : Int)], .agg #[.int .i64 0, .int .i64 0, .int .i64 0, .int .i64 0, .string ⟨#[]⟩, .int .i64 0, .int .i64 0, .string ⟨#[]⟩, .slice none 0 0], .int .i64 (-1), .int .i64 0])) W' from fun W' hb5 hk5 => by
      have hb := HB5.out.trans hb5
      have hsz := hb5.size
      have hk : ∀ b, w.heap.size + 5 ≤ b → b < w1.heap.size → W'.heap[b]? = w1.heap[b]? := fun b h1 h2 => (hk5 b h1 (by omega)).trans (HG5.out.block b h2 (by simp))
      exact ⟨hb, .inr ⟨hok, .inr ⟨HLW.out, A', c', rfl, hnc', hcm', hrd.frame (Nat.le_trans h15 hsz) (fun b h1 h2 => ⟨by omega, (hk b (by omega) h2)⟩)⟩⟩⟩)
    have d0 : W5.cell? ⟨w1.heap.size, 0, none⟩ = some (.slice A' n c') := by rw [hW5]; simp
    have d1 : W5.cell? ⟨w1.heap.size, 1, none⟩ = some (.int .i64 (n : Int)) := by rw [hW5]; simp
    have e0 : W5.cell? ⟨w1.heap.size + 1, 0, none⟩ = some (.int .i64 0) := by rw [hW5]; simp
    have e1 : W5.cell? ⟨w1.heap.size + 1, 1, none⟩ = some (.int .i64 0) := by rw [hW5]; simp
    have e2 : W5.cell? ⟨w1.heap.size + 1, 2, none⟩ = some (.int .i64 0) := by rw [hW5]; simp
    have e3 : W5.cell? ⟨w1.heap.size + 1, 3, none⟩ = some (.int .i64 0) := by rw [hW5]; simp
    have e4 : W5.cell? ⟨w1.heap.size + 1, 4, none⟩ = some (.string ⟨#[]⟩) := by rw [hW5]; simp
    have e5 : W5.cell? ⟨w1.heap.size + 1, 5, none⟩ = some (.int .i64 0) := by rw [hW5]; simp
    have e6 : W5.cell? ⟨w1.heap.size + 1, 6, none⟩ = some (.int .i64 0) := by rw [hW5]; simp
    have e7 : W5.cell? ⟨w1.heap.size + 1, 7, none⟩ = some (.string ⟨#[]⟩) := by rw [hW5]; simp
    have e8 : W5.cell? ⟨w1.heap.size + 1, 8, none⟩ = some (.slice none 0 0) := by rw [hW5]; simp
    have wch5 : W5.cell? ⟨w.heap.size + 4, 0, none⟩ = some (.int .i64 (-1)) := (grown_cell HG5.out (by omega) (by simp)).trans wch
    obtain ⟨r0, r1, rf, y0, y1, y2, y3, y4, y5, y6, y7, y8, yf, hz⟩ := HK5.out
    have x0 : (W5.cell? ⟨w.heap.size + 2, 0, none⟩).isSome = true := by rw [r0]; rfl
    have x1 : (W5.cell? ⟨w.heap.size + 2, 1, none⟩).isSome = true := by rw [r1]; rfl
    have s0 : (W5.cell? ⟨w.heap.size + 3, 0, none⟩).isSome = true := by rw [y0]; rfl
    have s1 : (W5.cell? ⟨w.heap.size + 3, 1, none⟩).isSome = true := by rw [y1]; rfl
    have s2 : (W5.cell? ⟨w.heap.size + 3, 2, none⟩).isSome = true := by rw [y2]; rfl
    have s3 : (W5.cell? ⟨w.heap.size + 3, 3, none⟩).isSome = true := by rw [y3]; rfl
    have s4 : (W5.cell? ⟨w.heap.size + 3, 4, none⟩).isSome = true := by rw [y4]; rfl
    have s5 : (W5.cell? ⟨w.heap.size + 3, 5, none⟩).isSome = true := by rw [y5]; rfl
    have s6 : (W5.cell? ⟨w.heap.size + 3, 6, none⟩).isSome = true := by rw [y6]; rfl
    have s7 : (W5.cell? ⟨w.heap.size + 3, 7, none⟩).isSome = true := by rw [y7]; rfl
    have s8 : (W5.cell? ⟨w.heap.size + 3, 8, none⟩).isSome = true := by rw [y8]; rfl
    have hz4 : w.heap.size + 2 < W5.heap.size := by omega
    have hz5 : w.heap.size + 3 < W5.heap.size := by omega
    clear wch hI hg hrd hok
    go_wp2_with fail
    rw [← hW5]
    clear hW5
    go_region
    all_goals
      go_wp2_with fail
      refine bodyPost_ret (v := .tuple #[.agg #[.slice A' n c', .int .i64 (n : Int)], .agg #[.int .i64 0, .int .i64 0, .int .i64 0, .int .i64 0, .string ⟨#[]⟩, .int .i64 0, .int .i64 0, .string ⟨#[]⟩, .slice none 0 0], .int .i64 (-1), .int .i64 0]) (by simp [results, Try.results28, go_sem, x0, x1, s0, s1, s2, s3, s4, s5, s6, s7, s8]) rfl ?_
      refine FIN.out _ ?_ (fun b h1 h2 => ?_)
      · refine Below.drew ?_
        iterate 11 (refine below_set ?_ (by omega))
        exact Below.refl _ _
      · refine blk_drew ?_
        iterate 11 (refine blk_set ?_ (by omega))
        rfl
end Go.Proofs.Ytjalgnpbdcefdaa
