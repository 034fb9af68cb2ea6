/- What the laws of pick use: the asking functions, Again, SameBox, and the letters' flatness. -/
import Derived.Test.YtjalgnpbdcefdaaPicks
import Derived.Test.YtjalgnpbdcefdaaSameL
import Derived.Test.YtjalgnpbdcefdaaInts
import Derived.Test.YtjalgnpbdcefdaaPickOpen
namespace Go.Proofs.Ytjalgnpbdcefdaa
open Go.RowKit
set_option linter.unusedVariables false
theorem flat1_enters : Enters Try.prog 14 := fun _ _ => by kernel_rfl
theorem flat1_any (l : LT) (cs : List Value) (S : Nat → Prop) (w : World) (h : l.isL w S cs) (hm : l.val.many ≤ 4194304) : Calls Try.prog 14 #[.agg cs.toArray] w fun e w' => e = .returned (.bool (!flatB l.val)) ∧ Below w.heap.size w w' := by
  obtain ⟨k2, m2, s2, A2, n2, c2, rfl, hv⟩ := h
  have HC := Lib.hid (fun o => flat_any l.val _ S (w.alloc o) (isV_below hv ((Below.refl _ _).alloc (Nat.le_refl _) _)) hm)
  generalize flatB l.val = fb at *
  clear hv hm
  obtain ⟨lk, lf, lt, ln, lx, lv⟩ := l
  dsimp only
  go_enter Try.func14, Try.ntmps14
  go_wp2_with fail
  refine (HC.out _).mono ?_
  rintro e w1 ⟨rfl, hb⟩
  have HB := Lib.hid (((Below.refl w.heap.size w).alloc (Nat.le_refl _) _).trans (hb.mono (by simp)))
  clear hb
  go_wp2_with fail
  go_ret
  exact ⟨rfl, HB.out⟩
theorem notFlat1 (n c : Nat) (A : Option Addr) (arg : Nat → LT) (S : Nat → Prop) (w : World) (hn : n ≤ 9223372036854775807) (hR : RdL w S A n arg) (hm : ∀ i, i < n → (arg i).val.many ≤ 4194304) :
    Calls Try.prog 13 #[.slice A n c, .func (.func 14) #[] #[]] w fun e w' => e = .returned (.bool (anyOf (fun i => !flatB (arg i).val) n)) ∧ Below w.heap.size w w' :=
  cfL_rd 14 n c #[] A arg S _ w hn hR flat1_enters fun W hW i cs hi h => (flat1_any (arg i) cs S W h (hm i hi)).mono fun e W' ⟨he, hb⟩ => ⟨he, hW.trans (hb.mono hW.size)⟩
theorem flat2_enters : Enters Try.prog 23 := fun _ _ => by kernel_rfl
theorem flat2_any (l : LT) (cs : List Value) (S : Nat → Prop) (w : World) (h : l.isL w S cs) (hm : l.val.many ≤ 4194304) : Calls Try.prog 23 #[.agg cs.toArray] w fun e w' => e = .returned (.bool (!flatB l.val)) ∧ Below w.heap.size w w' := by
  obtain ⟨k2, m2, s2, A2, n2, c2, rfl, hv⟩ := h
  have HC := Lib.hid (fun o => flat_any l.val _ S (w.alloc o) (isV_below hv ((Below.refl _ _).alloc (Nat.le_refl _) _)) hm)
  generalize flatB l.val = fb at *
  clear hv hm
  obtain ⟨lk, lf, lt, ln, lx, lv⟩ := l
  dsimp only
  go_enter Try.func23, Try.ntmps23
  go_wp2_with fail
  refine (HC.out _).mono ?_
  rintro e w1 ⟨rfl, hb⟩
  have HB := Lib.hid (((Below.refl w.heap.size w).alloc (Nat.le_refl _) _).trans (hb.mono (by simp)))
  clear hb
  go_wp2_with fail
  go_ret
  exact ⟨rfl, HB.out⟩
theorem notFlat2 (n c : Nat) (A : Option Addr) (arg : Nat → LT) (S : Nat → Prop) (w : World) (hn : n ≤ 9223372036854775807) (hR : RdL w S A n arg) (hm : ∀ i, i < n → (arg i).val.many ≤ 4194304) :
    Calls Try.prog 13 #[.slice A n c, .func (.func 23) #[] #[]] w fun e w' => e = .returned (.bool (anyOf (fun i => !flatB (arg i).val) n)) ∧ Below w.heap.size w w' :=
  cfL_rd 23 n c #[] A arg S _ w hn hR flat2_enters fun W hW i cs hi h => (flat2_any (arg i) cs S W h (hm i hi)).mono fun e W' ⟨he, hb⟩ => ⟨he, hW.trans (hb.mono hW.size)⟩
theorem flat3_enters : Enters Try.prog 27 := fun _ _ => by kernel_rfl
theorem flat3_any (l : LT) (cs : List Value) (S : Nat → Prop) (w : World) (h : l.isL w S cs) (hm : l.val.many ≤ 4194304) : Calls Try.prog 27 #[.agg cs.toArray] w fun e w' => e = .returned (.bool (!flatB l.val)) ∧ Below w.heap.size w w' := by
  obtain ⟨k2, m2, s2, A2, n2, c2, rfl, hv⟩ := h
  have HC := Lib.hid (fun o => flat_any l.val _ S (w.alloc o) (isV_below hv ((Below.refl _ _).alloc (Nat.le_refl _) _)) hm)
  generalize flatB l.val = fb at *
  clear hv hm
  obtain ⟨lk, lf, lt, ln, lx, lv⟩ := l
  dsimp only
  go_enter Try.func27, Try.ntmps27
  go_wp2_with fail
  refine (HC.out _).mono ?_
  rintro e w1 ⟨rfl, hb⟩
  have HB := Lib.hid (((Below.refl w.heap.size w).alloc (Nat.le_refl _) _).trans (hb.mono (by simp)))
  clear hb
  go_wp2_with fail
  go_ret
  exact ⟨rfl, HB.out⟩
theorem notFlat3 (n c : Nat) (A : Option Addr) (arg : Nat → LT) (S : Nat → Prop) (w : World) (hn : n ≤ 9223372036854775807) (hR : RdL w S A n arg) (hm : ∀ i, i < n → (arg i).val.many ≤ 4194304) :
    Calls Try.prog 13 #[.slice A n c, .func (.func 27) #[] #[]] w fun e w' => e = .returned (.bool (anyOf (fun i => !flatB (arg i).val) n)) ∧ Below w.heap.size w w' :=
  cfL_rd 27 n c #[] A arg S _ w hn hR flat3_enters fun W hW i cs hi h => (flat3_any (arg i) cs S W h (hm i hi)).mono fun e W' ⟨he, hb⟩ => ⟨he, hW.trans (hb.mono hW.size)⟩
/-- numbers that lie below a place -/
def RdB (w : World) (B : Nat) (A : Option Addr) (n : Nat) (T : Nat → Int) : Prop := 0 < n → ∃ b off, A = some ⟨b, off, none⟩ ∧ b < B ∧ b < w.heap.size ∧ ∀ k, k < n → w.cell? ⟨b, off + k, none⟩ = some (.int .i64 (T k))
theorem RdB.rd {w : World} {B : Nat} {A : Option Addr} {n : Nat} {T : Nat → Int} (h : RdB w B A n T) : Rd w 1 (tmC T) A n := fun h0 => by
  obtain ⟨b, off, hA, _, hl, hc⟩ := h h0
  refine ⟨b, off, hA, hl, fun k hk j u hu => ?_⟩
  match j, hu with
  | 0, hu =>
    simp [tmC] at hu
    subst hu
    simpa using hc k hk
  | j + 1, hu => simp [tmC] at hu
theorem RdB.of {w : World} {B : Nat} {A : Option Addr} {n : Nat} {T : Nat → Int} (h : Rd w 1 (tmC T) A n) (hB : w.heap.size ≤ B) : RdB w B A n T := fun h0 => by
  obtain ⟨b, off, hA, hl, hc⟩ := h h0
  exact ⟨b, off, hA, by omega, hl, fun k hk => by simpa using hc k hk 0 _ rfl⟩
theorem RdB.frame {w w' : World} {B : Nat} {A : Option Addr} {n : Nat} {T : Nat → Int} (h : RdB w B A n T) (hsz : w.heap.size ≤ w'.heap.size) (hk : ∀ b, b < B → b < w.heap.size → w'.heap[b]? = w.heap[b]?) : RdB w' B A n T := fun h0 => by
  obtain ⟨b, off, hA, hB, hl, hc⟩ := h h0
  exact ⟨b, off, hA, hB, by omega, fun k hk' => (World.cell?_of_block (a := ⟨b, _, none⟩) (hk b hB hl)).trans (hc k hk')⟩
/-- what the laws' asking functions answer -/
def wants (T : Nat → Int) (n : Nat) : VT → Bool
  | .none => false
  | .node k m _ _ _ => k == 2 && anyOf (fun i => m == T i) n
structure AgI (B b1 : Nat) (A : Option Addr) (n c : Nat) (T : Nat → Int) (W : World) : Prop where
  ints : W.cell? ⟨b1, 0, none⟩ = some (.slice A n c)
  rd : RdB W B A n T
theorem AgI.keep {B b1 : Nat} {A : Option Addr} {n c : Nat} {T : Nat → Int} {W W' : World} (h : AgI B b1 A n c T W) (h1 : b1 < B) (hb : Below B W W') : AgI B b1 A n c T W' :=
  ⟨(hb.cell (p := ⟨b1, 0, none⟩) h1).trans h.ints, h.rd.frame hb.size (fun b hB _ => hb.block b hB)⟩
theorem ask1_enters : Enters Try.prog 15 := fun _ _ => by kernel_rfl
set_option maxRecDepth 100000 in
set_option maxHeartbeats 1000000 in
theorem ask1_call (B b1 : Nat) (A : Option Addr) (n c : Nat) (T : Nat → Int) (hn : n ≤ 9223372036854775807) (h1 : b1 < B) (t : VT) (cs : List Value) (S : Nat → Prop) (W : World) (hI : AgI B b1 A n c T W) (ht : t.isV W S cs) (hB : B ≤ W.heap.size) :
    Calls Try.prog 15 #[.agg cs.toArray, .pointer (some ⟨b1, 0, none⟩)] W fun e W' => e = .returned (.bool (wants T n t)) ∧ Below W.heap.size W W' := by
  cases t with
  | none => exact ht.elim
  | node k m s tn ta =>
    obtain ⟨A2, c2, rfl, _⟩ := ht
    have ints := hI.ints
    have hlt : b1 < W.heap.size := by omega
    have HC := Lib.hid (fun o => containsI_any A n c T m (W.alloc o) hn (hI.rd.rd.alloc o))
    have HB := Lib.hid (show ∀ o, Below W.heap.size W (W.alloc o) from fun o => (Below.refl _ _).alloc (Nat.le_refl _) _)
    have HW := Lib.hid (show wants T n (.node k m s tn ta) = (k == 2 && anyOf (fun i => m == T i) n) from rfl)
    rw [HW.out]
    generalize anyOf (fun i => m == T i) n = an at *
    obtain ⟨x, hx⟩ : ∃ x, (k == 2) = x := ⟨_, rfl⟩
    rw [hx]
    clear hI HW
    go_enter Try.func15, Try.ntmps15
    cases x
    · go_wp2_with fail
      go_ret
      exact ⟨ret_b (by simp), HB.out _⟩
    · go_wp2_with fail
      refine (HC.out _).mono ?_
      rintro e w1 ⟨rfl, rfl⟩
      go_wp2_with fail
      go_ret
      exact ⟨ret_b (by simp), HB.out _⟩
theorem ask1_ok (B b1 : Nat) (A : Option Addr) (n c : Nat) (T : Nat → Int) (hn : n ≤ 9223372036854775807) (h1 : b1 < B) :
    TakesOk B 15 #[.pointer (some ⟨b1, 0, none⟩)] (wants T n) none (fun _ W => AgI B b1 A n c T W) where
  enters := ask1_enters
  low := fun k hk => by cases hk
  keep := fun L W W' hI hB hb => hI.keep h1 hb
  call := fun L t cs S W hI ht hm hB => (ask1_call B b1 A n c T hn h1 t cs S W hI ht hB).mono fun e W' ⟨he, hb⟩ => ⟨he, hI.keep h1 (hb.mono hB), grown_below (g := none) hb⟩
/-- the asking function that counts -/
structure AsI (B b0 b1 : Nat) (A : Option Addr) (n c : Nat) (T : Nat → Int) (L : List VT) (W : World) : Prop where
  cnt : W.cell? ⟨b0, 0, none⟩ = some (.int .i64 (wrap64 (L.length : Int)))
  free : W.frozen? ⟨b0, 0, none⟩ = false
  ints : W.cell? ⟨b1, 0, none⟩ = some (.slice A n c)
  rd : RdB W b0 A n T
theorem AsI.keep {B b0 b1 : Nat} {A : Option Addr} {n c : Nat} {T : Nat → Int} {L : List VT} {W W' : World} (h : AsI B b0 b1 A n c T L W) (h0 : b0 < B) (h1 : b1 < B) (hb : Below B W W') : AsI B b0 b1 A n c T L W' :=
  ⟨(hb.cell (p := ⟨b0, 0, none⟩) h0).trans h.cnt, (hb.frozen (p := ⟨b0, 0, none⟩) h0).trans h.free, (hb.cell (p := ⟨b1, 0, none⟩) h1).trans h.ints, h.rd.frame hb.size (fun b hB _ => hb.block b (by omega))⟩
theorem ask2_enters : Enters Try.prog 24 := fun _ _ => by kernel_rfl
theorem wrap_more (n : Nat) : wrap64 (wrap64 (n : Int) + 1) = wrap64 ((n + 1 : Nat) : Int) := by
  unfold wrap64
  push_cast
  omega
set_option maxRecDepth 100000 in
set_option maxHeartbeats 1000000 in
theorem ask2_ok (B b0 b1 : Nat) (A : Option Addr) (n c : Nat) (T : Nat → Int) (hn : n ≤ 9223372036854775807) (h0 : b0 < B) (h1 : b1 < b0) :
    TakesOk B 24 #[.pointer (some ⟨b0, 0, none⟩), .pointer (some ⟨b1, 0, none⟩)] (wants T n) (some b0) (AsI B b0 b1 A n c T) where
  enters := ask2_enters
  low := fun k hk => by injection hk with hk; omega
  keep := fun L W W' hI hB hb => hI.keep h0 (by omega) hb
  call := fun L t cs S W hI ht hm hB => by
    cases t with
    | none => exact ht.elim
    | node k m s tn ta =>
      obtain ⟨A2, c2, rfl, _⟩ := ht
      obtain ⟨cnt, free, ints, rd⟩ := hI
      have hlt0 : b0 < W.heap.size := by omega
      have hlt1 : b1 < W.heap.size := by omega
      have HLL := Lib.hid (show (L ++ [VT.node k m s tn ta]).length = L.length + 1 by simp)
      have HWM := Lib.hid (wrap_more L.length)
      have hgr : ∀ o u, W.grownBy ((W.setCell ⟨b0, 0, none⟩ u).alloc o) (some b0) := fun o u => grown_alloc (grown_set (grown_self _ _) _) _
      have HGR := Lib.hid hgr
      have HRD := Lib.hid (show ∀ o u, RdB ((W.setCell ⟨b0, 0, none⟩ u).alloc o) b0 A n T from fun o u => rd.frame (hgr o u).size (fun b hb hl => (hgr o u).block b hl (fun e => by injection e with e; omega)))
      have HC := Lib.hid (fun o u => containsI_any A n c T m ((W.setCell ⟨b0, 0, none⟩ u).alloc o) hn (HRD.out o u).rd)
      have HI := Lib.hid (show ∀ o, AsI B b0 b1 A n c T (L ++ [.node k m s tn ta]) ((W.setCell ⟨b0, 0, none⟩ (.int .i64 (wrap64 (wrap64 (L.length : Int) + 1)))).alloc o) from fun o => by
        refine ⟨?_, ?_, ?_, HRD.out _ _⟩
        · rw [HLL.out, ← HWM.out, World.cell?_of_block (a := ⟨b0, 0, none⟩) (Below.heap_alloc _ _ _ (by simpa using hlt0))]
          exact World.cell?_setCell_same _ _ _ cnt
        · rw [World.frozen?_of_block (a := ⟨b0, 0, none⟩) (Below.heap_alloc _ _ _ (by simpa using hlt0))]
          simpa using free
        · rw [World.cell?_of_block (a := ⟨b1, 0, none⟩) (Below.heap_alloc _ _ _ (by simpa using hlt1)), World.cell?_setCell_other _ _ _ _ (fun e => by injection e with e; omega)]
          exact ints)
      have HW := Lib.hid (show wants T n (.node k m s tn ta) = (k == 2 && anyOf (fun i => m == T i) n) from rfl)
      rw [HW.out]
      generalize anyOf (fun i => m == T i) n = an at *
      obtain ⟨x, hx⟩ : ∃ x, (k == 2) = x := ⟨_, rfl⟩
      rw [hx]
      obtain ⟨z, hz⟩ : ∃ z, wrap64 (L.length : Int) = z := ⟨_, rfl⟩
      rw [hz] at cnt HI
      clear HW hgr rd HLL HWM hz
      show Calls Try.prog 24 #[.agg #[.int .i64 k, .int .i64 m, .string s, .slice A2 tn c2], .pointer (some ⟨b0, 0, none⟩), .pointer (some ⟨b1, 0, none⟩)] W _
      go_enter Try.func24, Try.ntmps24
      cases x
      · go_wp2_with fail
        go_ret
        exact ⟨ret_b (by simp), HI.out _, HGR.out _ _⟩
      · go_wp2_with fail
        refine (HC.out _ _).mono ?_
        rintro e w1 ⟨rfl, rfl⟩
        go_wp2_with fail
        go_ret
        exact ⟨ret_b (by simp), HI.out _, HGR.out _ _⟩
def AgainPost (n : Nat) (arg : Nat → LT) (w : World) (e : Ending) (w' : World) : Prop :=
  ∃ A c, e = .returned (.tuple #[.agg #[.slice A n c, .int .i64 0], .int .i64 0]) ∧ n ≤ c ∧ c ≤ 9223372036854775807 ∧ RdL w' (fun b => w.heap.size ≤ b) A n arg ∧ Below w.heap.size w w'
set_option maxRecDepth 100000 in
set_option maxHeartbeats 2000000 in
theorem again_any (n c : Nat) (A : Option Addr) (at_ : Int) (arg : Nat → LT) (S : Nat → Prop) (w : World) (hn : n ≤ 4194304) (hR : RdL w S A n arg) (hm : ∀ i, i < n → (arg i).val.many ≤ 4194304) (ok : OkBox n at_ arg) :
    Calls Try.prog 18 #[.agg #[.slice A n c, .int .i64 at_]] w (AgainPost n arg w) := by
  have HBB := Lib.hid (show ∀ o o', Below w.heap.size w ((w.alloc o).alloc o') from fun o o' => ((Below.refl w.heap.size w).alloc (Nat.le_refl _) _).alloc (by simp) _)
  have HC := Lib.hid (fun o o' => boxCheck_ok n c A at_ arg S ((w.alloc o).alloc o') (by omega) (hR.below (HBB.out o o')) ok)
  have HE := Lib.hid (fun W (hb : Below w.heap.size w W) => leach_any n c A arg S W hn (hR.below hb) hm)
  clear hR hm ok
  go_enter Try.func18, Try.ntmps18
  go_wp2_with fail
  refine (HC.out _ _).mono ?_
  rintro e w1 ⟨rfl, hb1⟩
  have HB1 := Lib.hid ((HBB.out _ _).trans (hb1.mono (by simp; omega)))
  have q0 : w1.cell? ⟨w.heap.size, 0, none⟩ = some (.slice A n c) := (hb1.cell (p := ⟨_, _, none⟩) (by simp; omega)).trans (by simp [go_sem])
  have q1 : w1.cell? ⟨w.heap.size, 1, none⟩ = some (.int .i64 at_) := (hb1.cell (p := ⟨_, _, none⟩) (by simp; omega)).trans (by simp [go_sem])
  have r0 : w1.cell? ⟨w.heap.size + 1, 0, none⟩ = some (.slice none 0 0) := (hb1.cell (p := ⟨_, _, none⟩) (by simp)).trans (by simp [go_sem])
  have r1 : w1.cell? ⟨w.heap.size + 1, 1, none⟩ = some (.int .i64 0) := (hb1.cell (p := ⟨_, _, none⟩) (by simp)).trans (by simp [go_sem])
  have rf : ∀ o, w1.frozen? ⟨w.heap.size + 1, o, none⟩ = false := fun o => (hb1.frozen (p := ⟨_, _, none⟩) (by simp)).trans (by simp [go_sem])
  have hz1 : w.heap.size + 2 ≤ w1.heap.size := by have := hb1.size; simp at this; omega
  clear hb1
  go_wp2_with fail
  refine (HE.out _ HB1.out).mono ?_
  rintro e w2 ⟨v, C, rfl, hown, hCl, hCv, hb2⟩
  obtain ⟨A2, c2, rfl, hnc2, hcm2, hA2⟩ := own_any hown
  have HLR := Lib.hid (LRow.mk (arg := arg) hown hCl hCv)
  have HB2 := Lib.hid (HB1.out.trans (hb2.mono HB1.out.size))
  have y0 := (hb2.cell (p := ⟨w.heap.size + 1, 0, none⟩) (by show w.heap.size + 1 < _; omega)).trans r0
  have y1 := (hb2.cell (p := ⟨w.heap.size + 1, 1, none⟩) (by show w.heap.size + 1 < _; omega)).trans r1
  have yf : ∀ o, w2.frozen? ⟨w.heap.size + 1, o, none⟩ = false := fun o => (hb2.frozen (p := ⟨w.heap.size + 1, o, none⟩) (by show w.heap.size + 1 < _; omega)).trans (rf o)
  have s0 : (w2.cell? ⟨w.heap.size + 1, 0, none⟩).isSome = true := by rw [y0]; rfl
  have s1 : (w2.cell? ⟨w.heap.size + 1, 1, none⟩).isSome = true := by rw [y1]; rfl
  clear hown hCl hCv hb2 q0 q1 r0 r1 rf
  go_wp2_with fail
  refine bodyPost_ret (v := .tuple #[.agg #[.slice A2 n c2, .int .i64 0], .int .i64 0]) (by simp [results, Try.results18, go_sem, s0, s1]) rfl ?_
  refine ⟨A2, c2, rfl, hnc2, hcm2, HLR.out.rd.frame (by simp) (fun b h1 h2 => ⟨by omega, ?_⟩), below_set (below_set HB2.out (by omega)) (by omega)⟩
  exact blk_set (blk_set rfl (by omega)) (by omega)
def sameBB (n : Nat) (at_ : Int) (arg : Nat → LT) (yn : Nat) (yat : Int) (yarg : Nat → LT) : Bool := at_ == yat && (n == yn && allTo (fun i => sameLB (arg i) (yarg i)) n)
theorem sameBox_any (n yn c yc : Nat) (A yA : Option Addr) (at_ yat : Int) (arg yarg : Nat → LT) (S1 S2 : Nat → Prop) (w : World) (hn : n ≤ 9223372036854775807) (hyn : yn ≤ 9223372036854775807) (h1 : RdL w S1 A n arg) (h2 : RdL w S2 yA yn yarg) :
    Calls Try.prog 22 #[.agg #[.slice A n c, .int .i64 at_], .agg #[.slice yA yn yc, .int .i64 yat]] w fun e w' => e = .returned (.bool (sameBB n at_ arg yn yat yarg)) ∧ Below w.heap.size w w' := by
  have HBB := Lib.hid (show ∀ o o', Below w.heap.size w ((w.alloc o).alloc o') from fun o o' => ((Below.refl w.heap.size w).alloc (Nat.le_refl _) _).alloc (by simp) _)
  have HC := Lib.hid (fun o o' => sameLs_any n yn c yc A yA arg yarg S1 S2 ((w.alloc o).alloc o') hn hyn (h1.below (HBB.out o o')) (h2.below (HBB.out o o')))
  have HW := Lib.hid (show sameBB n at_ arg yn yat yarg = (at_ == yat && (n == yn && allTo (fun i => sameLB (arg i) (yarg i)) n)) from rfl)
  rw [HW.out]
  generalize (n == yn && allTo (fun i => sameLB (arg i) (yarg i)) n) = sl at *
  obtain ⟨x, hx⟩ : ∃ x, (at_ == yat) = x := ⟨_, rfl⟩
  rw [hx]
  clear h1 h2 HW
  go_enter Try.func22, Try.ntmps22
  cases x
  · go_wp2_with fail
    go_ret
    exact ⟨ret_b (by simp), HBB.out _ _⟩
  · go_wp2_with fail
    refine (HC.out _ _).mono ?_
    rintro e w1 ⟨rfl, hb⟩
    have HB := Lib.hid ((HBB.out _ _).trans (hb.mono (by simp; omega)))
    clear hb
    go_wp2_with fail
    go_ret
    exact ⟨ret_b (by simp), HB.out⟩
end Go.Proofs.Ytjalgnpbdcefdaa
