/- The closure of LinkOwn: all is as it was. The clones of LinkOwn: the family of rows, and what the statement that draws its order has done so far. The arguments of LinkOwn, in the second form: rows of links, timers, lines, rows of limits, a supervisor, each with its bulk. -/
import Derived.Test.YtcedogmhmpcfmaaLI
import Derived.Test.YtcedogmhmpcfmaaTI
import Derived.Test.YtcedogmhmpcfmaaLM
import Derived.Test.YtcedogmhmpcfmaaWardEq
import Derived.Test.YtcedogmhmpcfmaaST
import Derived.Test.YtcedogmhmpcfmaaCloneRegN
import Derived.Test.YtcedogmhmpcfmaaVal
namespace Go.Proofs.Ytcedogmhmpcfmaa
open Go.RowKit
set_option linter.unusedVariables false
/-- what LinkOwn is given -/
structure InL where
  n : Nat
  R : Nat → Li.LR
  du : List Ti.Du
  m : Nat
  L : Nat → Lm.LRow
  k : Nat
  C : Nat → Wa.Ch
  ts : List Int
  q : Nat
  Q : Nat → List Int
def LinksAt (W : World) (X : InL) (v : Value) : Prop := ∃ A c vw vl, v = .slice A X.n c ∧ Li.RdL W A X.n X.R vw vl
def DuesAt (W : World) (X : InL) (v : Value) : Prop := ∃ A c, v = .slice A X.du.length c ∧ Ti.Sd W (.slice A X.du.length c) X.du
def CapsAt (W : World) (X : InL) (v : Value) : Prop := ∃ A c, v = .slice A X.m c ∧ X.m ≤ c ∧ c ≤ 9223372036854775807 ∧ Rd W 5 (Lm.rowC X.L) A X.m
def KidsAt (W : World) (X : InL) (v : Value) : Prop := ∃ A c, v = .slice A X.k c ∧ X.k ≤ c ∧ c ≤ 9223372036854775807 ∧ Rd W 3 (Wa.chC X.C) A X.k
def TimesAt (W : World) (X : InL) (v : Value) : Prop := ∃ A c, v = .slice A X.ts.length c ∧ Rd W 1 (tmC (lst X.ts)) A X.ts.length
def LinesAt (W : World) (X : InL) (v : Value) : Prop := ∃ A c S, v = .slice A X.q c ∧ St.RdLs W S A X.q X.Q
theorem LinksAt.below {W W' : World} {X : InL} {v : Value} (h : LinksAt W X v) (hb : Below W.heap.size W W') : LinksAt W' X v := by
  obtain ⟨A, c, vw, vl, e, h⟩ := h
  exact ⟨A, c, vw, vl, e, h.below hb⟩
theorem DuesAt.below {W W' : World} {X : InL} {v : Value} (h : DuesAt W X v) (hb : Below W.heap.size W W') : DuesAt W' X v := by
  obtain ⟨A, c, e, h⟩ := h
  exact ⟨A, c, e, h.below hb⟩
theorem CapsAt.below {W W' : World} {X : InL} {v : Value} (h : CapsAt W X v) (hb : Below W.heap.size W W') : CapsAt W' X v := by
  obtain ⟨A, c, e, h1, h2, h⟩ := h
  exact ⟨A, c, e, h1, h2, h.below hb⟩
theorem KidsAt.below {W W' : World} {X : InL} {v : Value} (h : KidsAt W X v) (hb : Below W.heap.size W W') : KidsAt W' X v := by
  obtain ⟨A, c, e, h1, h2, h⟩ := h
  exact ⟨A, c, e, h1, h2, h.below hb⟩
theorem TimesAt.below {W W' : World} {X : InL} {v : Value} (h : TimesAt W X v) (hb : Below W.heap.size W W') : TimesAt W' X v := by
  obtain ⟨A, c, e, h⟩ := h
  exact ⟨A, c, e, h.below hb⟩
theorem LinesAt.below {W W' : World} {X : InL} {v : Value} (h : LinesAt W X v) (hb : Below W.heap.size W W') : LinesAt W' X v := by
  obtain ⟨A, c, S, e, h⟩ := h
  exact ⟨A, c, fun _ => True, e, h.frame hb.size (fun b hs hlt => ⟨trivial, (hb.block b hlt)⟩)⟩
/-- what the closure's variables hold -/
structure LoW (W : World) (X : InL) (b0 b1 b2 b3 b4 b5 b6 b7 b8 b9 b10 : Nat) (lv lv' dv dv' mv mv' kv kv' tv tv' sv sv' : Value) : Prop where
  c0 : W.cell? ⟨b0, 0, none⟩ = some lv
  c1 : W.cell? ⟨b1, 0, none⟩ = some lv'
  c2 : W.cell? ⟨b2, 1, none⟩ = some dv
  c3 : W.cell? ⟨b3, 0, none⟩ = some dv'
  c4 : W.cell? ⟨b4, 0, none⟩ = some mv
  c5 : W.cell? ⟨b5, 0, none⟩ = some mv'
  c6 : W.cell? ⟨b6, 3, none⟩ = some kv
  c6' : W.cell? ⟨b6, 4, none⟩ = some tv
  c7 : W.cell? ⟨b7, 0, none⟩ = some kv'
  c8 : W.cell? ⟨b8, 0, none⟩ = some tv'
  c9 : W.cell? ⟨b9, 0, none⟩ = some sv
  c10 : W.cell? ⟨b10, 0, none⟩ = some sv'
  l : LinksAt W X lv ∧ LinksAt W X lv'
  d : DuesAt W X dv ∧ DuesAt W X dv'
  m : CapsAt W X mv ∧ CapsAt W X mv'
  k : KidsAt W X kv ∧ KidsAt W X kv'
  t : TimesAt W X tv ∧ TimesAt W X tv'
  s : LinesAt W X sv ∧ LinesAt W X sv'
theorem LoW.below {W W' : World} {X : InL} {b0 b1 b2 b3 b4 b5 b6 b7 b8 b9 b10 : Nat} {lv lv' dv dv' mv mv' kv kv' tv tv' sv sv' : Value} (H : LoW W X b0 b1 b2 b3 b4 b5 b6 b7 b8 b9 b10 lv lv' dv dv' mv mv' kv kv' tv tv' sv sv') (hb : Below W.heap.size W W') : LoW W' X b0 b1 b2 b3 b4 b5 b6 b7 b8 b9 b10 lv lv' dv dv' mv mv' kv kv' tv tv' sv sv' := by
  have k : ∀ {b o : Nat} {u : Value}, W.cell? ⟨b, o, none⟩ = some u → W'.cell? ⟨b, o, none⟩ = some u := fun {b o u} h => (hb.cell (p := ⟨b, o, none⟩) (World.block_lt_of_cell? W _ h)).trans h
  exact ⟨k H.c0, k H.c1, k H.c2, k H.c3, k H.c4, k H.c5, k H.c6, k H.c6', k H.c7, k H.c8, k H.c9, k H.c10, ⟨H.l.1.below hb, H.l.2.below hb⟩, ⟨H.d.1.below hb, H.d.2.below hb⟩, ⟨H.m.1.below hb, H.m.2.below hb⟩, ⟨H.k.1.below hb, H.k.2.below hb⟩, ⟨H.t.1.below hb, H.t.2.below hb⟩, ⟨H.s.1.below hb, H.s.2.below hb⟩⟩
set_option maxHeartbeats 4000000 in
set_option maxRecDepth 100000 in
theorem same_any (W : World) (X : InL) (b0 b1 b2 b3 b4 b5 b6 b7 b8 b9 b10 : Nat) (lv lv' dv dv' mv mv' kv kv' tv tv' sv sv' : Value) (H : LoW W X b0 b1 b2 b3 b4 b5 b6 b7 b8 b9 b10 lv lv' dv dv' mv mv' kv kv' tv tv' sv sv') (hn : X.n ≤ 9223372036854775807) (htl : X.ts.length ≤ 9223372036854775807) (hq : X.q ≤ 9223372036854775807) :
    Calls Try.prog 10 #[.pointer (some ⟨b0, 0, none⟩), .pointer (some ⟨b1, 0, none⟩), .pointer (some ⟨b2, 0, none⟩), .pointer (some ⟨b3, 0, none⟩), .pointer (some ⟨b4, 0, none⟩), .pointer (some ⟨b5, 0, none⟩), .pointer (some ⟨b6, 0, none⟩), .pointer (some ⟨b7, 0, none⟩), .pointer (some ⟨b8, 0, none⟩), .pointer (some ⟨b9, 0, none⟩), .pointer (some ⟨b10, 0, none⟩)] W fun e w' => e = .returned (.bool true) ∧ Below W.heap.size W w' := by
  have HS := Lib.hid H
  obtain ⟨A0, d0, vw0, vl0, rfl, -⟩ := H.l.1
  obtain ⟨A1, d1, vw1, vl1, rfl, -⟩ := H.l.2
  obtain ⟨A2, d2, rfl, -⟩ := H.d.1
  obtain ⟨A3, d3, rfl, -⟩ := H.d.2
  obtain ⟨A4, d4, rfl, -⟩ := H.m.1
  obtain ⟨A5, d5, rfl, -⟩ := H.m.2
  obtain ⟨A6, d6, rfl, -⟩ := H.k.1
  obtain ⟨A7, d7, rfl, -⟩ := H.k.2
  obtain ⟨A8, d8, rfl, -⟩ := H.t.1
  obtain ⟨A9, d9, rfl, -⟩ := H.t.2
  obtain ⟨AA, dA, SA, rfl, -⟩ := H.s.1
  obtain ⟨AB, dB, SB, rfl, -⟩ := H.s.2
  have z0 := H.c0
  have z1 := H.c1
  clear H
  go_enter Try.func10, Try.ntmps10
  go_wp2_with fail
  obtain ⟨_, _, vw, vl, e, h1⟩ := HS.out.l.1
  injection e with e1 _ e3
  subst e1 e3
  obtain ⟨_, _, vw', vl', e, h2⟩ := HS.out.l.2
  injection e with e1 _ e3
  subst e1 e3
  refine (Li.sameL_ok A0 A1 X.n d0 d1 X.R vw vl vw' vl' W hn h1 h2).mono ?_
  rintro e w1 ⟨rfl, hb1⟩
  have HB1 := Lib.hid hb1
  have HS1 := Lib.hid (HS.out.below HB1.out)
  have z2 := HS1.out.c2
  have z3 := HS1.out.c3
  clear hb1 z0 z1 h1 h2 vw vl vw' vl'
  go_wp2_with fail
  obtain ⟨_, _, e, h1⟩ := HS1.out.d.1
  injection e with e1 _ e3
  subst e1 e3
  obtain ⟨_, _, e, h2⟩ := HS1.out.d.2
  injection e with e1 _ e3
  subst e1 e3
  refine (Ti.equalD_same A2 A3 d2 d3 X.du w1 h1 h2).mono ?_
  rintro e w2 ⟨rfl, hb2⟩
  have HB2 := Lib.hid (HB1.out.trans (hb2.mono HB1.out.size))
  have HS2 := Lib.hid (HS.out.below HB2.out)
  have z4 := HS2.out.c4
  have z5 := HS2.out.c5
  clear hb2 z2 z3 h1 h2
  go_wp2_with fail
  obtain ⟨_, _, e, k1, k2, h1⟩ := HS2.out.m.1
  injection e with e1 _ e3
  subst e1 e3
  obtain ⟨_, _, e, -, -, h2⟩ := HS2.out.m.2
  injection e with e1 _ e3
  subst e1 e3
  refine (Lm.equalL_same A4 A5 X.m X.m d4 d5 X.L w2 rfl k1 k2 h1 h2).mono ?_
  rintro e w3 ⟨rfl, hb3⟩
  have HB3 := Lib.hid (HB2.out.trans (hb3.mono HB2.out.size))
  have HS3 := Lib.hid (HS.out.below HB3.out)
  have z6 := HS3.out.c6
  have z7 := HS3.out.c7
  clear hb3 z4 z5 h1 h2 k1 k2
  go_wp2_with fail
  obtain ⟨_, _, e, k1, k2, h1⟩ := HS3.out.k.1
  injection e with e1 _ e3
  subst e1 e3
  obtain ⟨_, _, e, -, -, h2⟩ := HS3.out.k.2
  injection e with e1 _ e3
  subst e1 e3
  refine (Wa.equalC_same A6 A7 X.k X.k d6 d7 X.C w3 rfl k1 k2 h1 h2).mono ?_
  rintro e w4 ⟨rfl, hb4⟩
  have HB4 := Lib.hid (HB3.out.trans (hb4.mono HB3.out.size))
  have HS4 := Lib.hid (HS.out.below HB4.out)
  have z8 := HS4.out.c6'
  have z9 := HS4.out.c8
  clear hb4 z6 z7 h1 h2 k1 k2
  go_wp2_with fail
  obtain ⟨_, _, e, h1⟩ := HS4.out.t.1
  injection e with e1 _ e3
  subst e1 e3
  obtain ⟨_, _, e, h2⟩ := HS4.out.t.2
  injection e with e1 _ e3
  subst e1 e3
  refine (equalI_any A8 A9 X.ts.length d8 X.ts.length d9 (lst X.ts) (lst X.ts) w4 htl htl h1 h2).mono ?_
  rintro e w5 ⟨rfl, q5, rfl⟩
  have hv : (decide (X.ts.length = X.ts.length) && !anyOf (fun k => lst X.ts k != lst X.ts k) X.ts.length) = true := by
    rw [anyOf_false.2 (fun j hj => by simp)]
    simp
  rw [hv]
  obtain ⟨w5, hw5⟩ : ∃ w5, w5 = World.drewN w4 q5 := ⟨_, rfl⟩
  have HB5 := Lib.hid (show Below W.heap.size W w5 by rw [hw5]; exact below_drewN HB4.out _)
  rw [← hw5]
  have HS5 := Lib.hid (HS.out.below HB5.out)
  have zA := HS5.out.c9
  have zB := HS5.out.c10
  clear hw5 hv z8 z9 h1 h2
  go_wp2_with fail
  obtain ⟨_, _, S1, e, h1⟩ := HS5.out.s.1
  injection e with e1 _ e3
  subst e1 e3
  obtain ⟨_, _, S2, e, h2⟩ := HS5.out.s.2
  injection e with e1 _ e3
  subst e1 e3
  refine (St.sameL_ok AA AB X.q dA dB X.Q S1 S2 w5 hq h1 h2).mono ?_
  rintro e w6 ⟨rfl, hb6⟩
  have HB6 := Lib.hid (HB5.out.trans (hb6.mono HB5.out.size))
  clear hb6 zA zB h1 h2
  go_wp2_with fail
  go_ret
  exact ⟨rfl, HB6.out⟩
end Go.Proofs.Ytcedogmhmpcfmaa
namespace Go.Proofs.Ytcedogmhmpcfmaa
open Go.RowKit
set_option linter.unusedVariables false
theorem blk_slice {A : Option Addr} {n c : Nat} : blkOf (.slice A n c) = (Value.slice A n c).ownBlock := by cases A <;> rfl
/-- numbers at the head of a block -/
def InnerAt (w : World) (v : Value) (l : List Int) : Prop := ∃ A c, v = .slice A l.length c ∧ l.length ≤ c ∧ c ≤ 9223372036854775807 ∧ (A = none → l.length = 0) ∧ (0 < l.length → ∃ g, A = some ⟨g, 0, none⟩ ∧ g < w.heap.size ∧ ∀ j, j < l.length → w.cell? ⟨g, j, none⟩ = some (.int .i64 (lst l j)))
theorem InnerAt.of {w : World} {base : Nat} {v : Value} {l : List Int} (h : OwnI w base v l) : InnerAt w v l := by
  obtain ⟨A, c, rfl, h1, h2, h3⟩ := own_any h
  refine ⟨A, c, rfl, h1, h2, h3, fun h0 => ?_⟩
  obtain ⟨g, cap, hv, -, hg, -⟩ := own_form h h0
  injection hv with e1 _ e3
  subst e1 e3
  refine ⟨g, rfl, hg, fun j hj => ?_⟩
  rw [World.ownsRow.cellAt h j (by omega)]
  exact encI_get (by simp [lst, hj])
theorem InnerAt.sl {w : World} {v : Value} {l : List Int} (h : InnerAt w v l) : Li.Sl w v l := by
  obtain ⟨A, c, rfl, h1, h2, h3, h4⟩ := h
  refine ⟨A, c, rfl, h1, h2, h3, fun h0 => ?_⟩
  obtain ⟨g, rfl, hg, hc⟩ := h4 h0
  refine ⟨g, 0, rfl, hg, fun k hk j u hu => ?_⟩
  match j, hu with
  | 0, hu => simp [tmC] at hu; subst hu; simpa using hc k hk
theorem InnerAt.grown {w w' : World} {v : Value} {l : List Int} {row : Option Nat} (h : InnerAt w v l) (hg : w.grownBy w' row) (hs : ∀ b, row = some b → ∃ A n c, w.cell? ⟨b, 0, none⟩ = some (.slice A n c)) : InnerAt w' v l := by
  obtain ⟨A, c, rfl, h1, h2, h3, h4⟩ := h
  refine ⟨A, c, rfl, h1, h2, h3, fun h0 => ?_⟩
  obtain ⟨g, rfl, hgl, hc⟩ := h4 h0
  have hne : some g ≠ row := fun e => by
    obtain ⟨A, n, c, e2⟩ := hs g e.symm
    rw [hc 0 h0] at e2
    injection e2 with e2
    cases e2
  exact ⟨g, rfl, Nat.lt_of_lt_of_le hgl hg.size, fun j hj => (grown_cell hg hgl hne).trans (hc j hj)⟩
/-- rows of links whose outer row is new -/
def LinkRow (w1 : World) (X : InL) (v : Value) (w : World) : Prop := ∃ A c vw vl, v = .slice A X.n c ∧ (∀ b, (Value.slice A X.n c).ownBlock = some b → w1.heap.size ≤ b ∧ b < w.heap.size) ∧ (0 < X.n → ∃ g, A = some ⟨g, 0, none⟩ ∧ g < w.heap.size ∧ ∀ k, k < X.n → ∀ j u, (Li.rwC X.R vw vl k)[j]? = some u → w.cell? ⟨g, k * 3 + j, none⟩ = some u) ∧ ∀ k, k < X.n → InnerAt w (vw k) (X.R k).ws ∧ InnerAt w (vl k) (X.R k).ls
theorem LinkRow.of {w1 w : World} {X : InL} {base : Nat} {v : Value} {vw vl : Nat → Value} (h : Li.OwnL w base v X.n X.R vw vl) (hb : w1.heap.size ≤ base) : LinkRow w1 X v w := by
  obtain ⟨A, c, rfl, h1, h2, h3⟩ := own_any h.row
  refine ⟨A, c, vw, vl, rfl, fun b hbb => ?_, fun h0 => ?_, fun k hk => ⟨InnerAt.of (h.each k hk true), InnerAt.of (h.each k hk false)⟩⟩
  · have := h.row.lt b hbb
    exact ⟨by omega, this.2⟩
  · obtain ⟨g, cap, hv, -, hg, -⟩ := own_form h.row h0
    injection hv with e1 _ e3
    subst e1 e3
    refine ⟨g, rfl, hg, fun k hk j u hu => ?_⟩
    have hj : j < 3 := by
      rcases Nat.lt_or_ge j 3 with h | h
      · exact h
      · rw [List.getElem?_eq_none (by simpa [Li.rwC] using h)] at hu; cases hu
    rw [own_cellC h.row (fun k => rfl) hk hj]
    exact hu
theorem LinkRow.grown {w1 w w' : World} {X : InL} {v : Value} {row : Option Nat} (h : LinkRow w1 X v w) (hg : w.grownBy w' row) (hr : ∀ b, blkOf v = some b → row ≠ some b) (hs : ∀ b, row = some b → ∃ A n c, w.cell? ⟨b, 0, none⟩ = some (.slice A n c)) : LinkRow w1 X v w' := by
  obtain ⟨A, c, vw, vl, rfl, h1, h2, h3⟩ := h
  refine ⟨A, c, vw, vl, rfl, fun b hb => ⟨(h1 b hb).1, Nat.lt_of_lt_of_le (h1 b hb).2 hg.size⟩, fun h0 => ?_, fun k hk => ⟨(h3 k hk).1.grown hg hs, (h3 k hk).2.grown hg hs⟩⟩
  obtain ⟨g, rfl, hgl, hc⟩ := h2 h0
  have hne : some g ≠ row := fun e => hr g rfl e.symm
  exact ⟨g, rfl, Nat.lt_of_lt_of_le hgl hg.size, fun k hk j u hu => (grown_cell hg hgl hne).trans (hc k hk j u hu)⟩
theorem LinkRow.at {w1 w : World} {X : InL} {v : Value} (h : LinkRow w1 X v w) : LinksAt w X v := by
  obtain ⟨A, c, vw, vl, rfl, -, h2, h3⟩ := h
  refine ⟨A, c, vw, vl, rfl, ⟨fun h0 => ?_, fun k hk => ⟨(h3 k hk).1.sl, (h3 k hk).2.sl⟩⟩⟩
  obtain ⟨g, rfl, hgl, hc⟩ := h2 h0
  exact ⟨g, 0, rfl, hgl, fun k hk j u hu => by simpa using hc k hk j u hu⟩
/-- the five clones -/
def RowL (w1 : World) (X : InL) (k : Nat) (v : Value) (w : World) : Prop :=
  match k with
  | 0 => LinkRow w1 X v w
  | 1 => ∃ A c, v = .slice A X.du.length c ∧ Ti.OwnD w w1.heap.size v X.du
  | 2 => ∃ A c, v = .slice A X.m c ∧ w.ownsRow w1.heap.size 40 5 v X.m (flatC (Lm.rowC X.L) X.m)
  | 3 => ∃ A c, v = .slice A X.k c ∧ w.ownsRow w1.heap.size 43 3 v X.k (flatC (Wa.chC X.C) X.k)
  | _ => ∃ A c, v = .slice A X.ts.length c ∧ OwnI w w1.heap.size v X.ts
theorem rowL_fam (w1 : World) (X : InL) : RowFam w1 5 (RowL w1 X) := by
  refine ⟨fun k v w w' row hk hr hg hb hs => ?_, fun k v w b hk hr hb => ?_⟩
  · match k, hr with
    | 0, h => exact LinkRow.grown h hg hb hs
    | 1, ⟨A, c, e, hO⟩ => subst e; exact ⟨A, c, rfl, hO.grown hg (fun k hk => hb k (by rw [blk_slice]; exact hk))⟩
    | 2, ⟨A, c, e, hO⟩ => subst e; exact ⟨A, c, rfl, own_grown hO hg (fun k hk => hb k (by rw [blk_slice]; exact hk))⟩
    | 3, ⟨A, c, e, hO⟩ => subst e; exact ⟨A, c, rfl, own_grown hO hg (fun k hk => hb k (by rw [blk_slice]; exact hk))⟩
    | 4, ⟨A, c, e, hO⟩ => subst e; exact ⟨A, c, rfl, hO.grown hg (fun k hk => hb k (by rw [blk_slice]; exact hk))⟩
    | k + 5, _ => omega
  · match k, hr with
    | 0, ⟨A, c, vw, vl, e, h1, _⟩ => subst e; rw [blk_slice] at hb; exact h1 b hb
    | 1, ⟨A, c, e, hO⟩ => subst e; rw [blk_slice] at hb; exact hO.blk b hb
    | 2, ⟨A, c, e, hO⟩ => subst e; rw [blk_slice] at hb; exact hO.lt b hb
    | 3, ⟨A, c, e, hO⟩ => subst e; rw [blk_slice] at hb; exact hO.lt b hb
    | 4, ⟨A, c, e, hO⟩ => subst e; rw [blk_slice] at hb; exact hO.blk b hb
    | k + 5, _ => omega
theorem rowL_slice {w1 w : World} {X : InL} {k : Nat} {v : Value} (h : RowL w1 X k v w) : ∃ A n c, v = .slice A n c := by
  match k, h with
  | 0, ⟨A, c, vw, vl, e, h1, _⟩ => exact ⟨A, _, c, e⟩
  | 1, ⟨A, c, e, hO⟩ => exact ⟨A, _, c, e⟩
  | 2, ⟨A, c, e, hO⟩ => exact ⟨A, _, c, e⟩
  | 3, ⟨A, c, e, hO⟩ => exact ⟨A, _, c, e⟩
  | k + 4, ⟨A, c, e, hO⟩ => exact ⟨A, _, c, e⟩
def zS : Nat → Value := fun _ => .slice none 0 0
def yI (j : Nat) : Nat := [0, 2, 3, 5, 7, 8, 10, 11].getD j 0
def cI (k : Nat) : Nat := [1, 4, 6, 9, 12].getD k 0
def vyL (X : InL) (lA tA mA kA hA : Option Addr) (lc tc mc kc hc n0 : Nat) : Nat → Value := fun j => [Value.slice lA X.n lc, .pointer (some ⟨n0 + 1, 1, none⟩), .slice tA X.du.length tc, .slice mA X.m mc, .pointer (some ⟨n0 + 1 + 1 + 1 + 1, 3, none⟩), .slice kA X.k kc, .pointer (some ⟨n0 + 1 + 1 + 1 + 1, 4, none⟩), .slice hA X.ts.length hc].getD j undef
theorem dn_ne {L : Nat → Bool} {i j : Nat} (h : j ≠ i) : dn L i j = L j := by unfold dn; rw [if_neg h]
theorem yI_inj : ∀ j, j < 8 → ∀ k, k < 8 → j ≠ k → yI j ≠ yI k := by decide
theorem cI_inj : ∀ j, j < 5 → ∀ k, k < 5 → j ≠ k → cI j ≠ cI k := by decide
theorem yI_c : ∀ j, j < 8 → ∀ k, k < 5 → yI j ≠ cI k ∧ yI j ≠ 13 + k ∧ yI j ≠ 18 + k := by decide
theorem cI_a : ∀ j, j < 5 → ∀ k, k < 5 → cI j ≠ 13 + k ∧ cI j ≠ 18 + k ∧ 13 + j ≠ 18 + k := by decide
theorem y_load {L : Nat → Bool} {Y VY : Nat → Value} {k : Nat} (hk : k < 8) (hY : ∀ j, j < 8 → L (yI j) = true → Y j = VY j) : ∀ j, j < 8 → dn L (yI k) (yI j) = true → updV Y k (VY k) j = VY j := by
  intro j hj h
  unfold updV
  by_cases e : j = k
  · subst e; rw [if_pos rfl]
  · rw [if_neg e]
    exact hY j hj (of_dn h (yI_inj j hj k hk e))
theorem y_other {L : Nat → Bool} {Y VY : Nat → Value} {i : Nat} (hi : ∀ j, j < 8 → yI j ≠ i) (hY : ∀ j, j < 8 → L (yI j) = true → Y j = VY j) : ∀ j, j < 8 → dn L i (yI j) = true → Y j = VY j := fun j hj h => hY j hj (of_dn h (hi j hj))
theorem y_upd {L : Nat → Bool} {Y VY : Nat → Value} {i : Nat} (k : Nat) (hi : ∀ j, j < 8 → yI j ≠ i) (hY : ∀ j, j < 8 → L (yI j) = true → Y j = VY j) : ∀ j, j < 8 → dn L i (yI j) = true → updV Y k (VY k) j = VY j := by
  intro j hj h
  unfold updV
  by_cases e : j = k
  · subst e; rw [if_pos rfl]
  · rw [if_neg e]
    exact y_other hi hY j hj h
section
variable {w1 w : World} {Row : Nat → Value → World → Prop} {Z V Pt : Nat → Value} {L : Nat → Bool} {k : Nat}
theorem ci_load (hk : k < 8) (H : CI w1 5 Row Z (fun k => L (cI k)) (fun k => L (13 + k)) (fun k => L (18 + k)) V Pt w) : CI w1 5 Row Z (fun j => dn L (yI k) (cI j)) (fun j => dn L (yI k) (13 + j)) (fun j => dn L (yI k) (18 + j)) V Pt w :=
  H.congr (fun j hj => dn_ne (fun e => (yI_c k hk j hj).1 e.symm)) (fun j hj => dn_ne (fun e => (yI_c k hk j hj).2.1 e.symm)) (fun j hj => dn_ne (fun e => (yI_c k hk j hj).2.2 e.symm))
theorem ci_call (hk : k < 5) (H : CI w1 5 Row Z (dn (fun k => L (cI k)) k) (fun k => L (13 + k)) (fun k => L (18 + k)) V Pt w) : CI w1 5 Row Z (fun j => dn L (cI k) (cI j)) (fun j => dn L (cI k) (13 + j)) (fun j => dn L (cI k) (18 + j)) V Pt w := by
  refine H.congr (fun j hj => ?_) (fun j hj => dn_ne (fun e => (cI_a k hk j hj).1 e.symm)) (fun j hj => dn_ne (fun e => (cI_a k hk j hj).2.1 e.symm))
  by_cases e : j = k
  · subst e; rw [dn_self, dn_self]
  · rw [dn_ne e, dn_ne (cI_inj j hj k hk e)]
theorem ci_alloc (hk : k < 5) (H : CI w1 5 Row Z (fun k => L (cI k)) (dn (fun k => L (13 + k)) k) (fun k => L (18 + k)) V Pt w) : CI w1 5 Row Z (fun j => dn L (13 + k) (cI j)) (fun j => dn L (13 + k) (13 + j)) (fun j => dn L (13 + k) (18 + j)) V Pt w := by
  refine H.congr (fun j hj => dn_ne (cI_a j hj k hk).1) (fun j hj => ?_) (fun j hj => dn_ne (fun e => (cI_a k hk j hj).2.2 e.symm))
  by_cases e : j = k
  · subst e; rw [dn_self, dn_self]
  · rw [dn_ne e, dn_ne (by omega)]
theorem ci_store (hk : k < 5) (H : CI w1 5 Row Z (fun k => L (cI k)) (fun k => L (13 + k)) (dn (fun k => L (18 + k)) k) V Pt w) : CI w1 5 Row Z (fun j => dn L (18 + k) (cI j)) (fun j => dn L (18 + k) (13 + j)) (fun j => dn L (18 + k) (18 + j)) V Pt w := by
  refine H.congr (fun j hj => dn_ne (cI_a j hj k hk).2.1) (fun j hj => dn_ne (cI_a j hj k hk).2.2) (fun j hj => ?_)
  by_cases e : j = k
  · subst e; rw [dn_self, dn_self]
  · rw [dn_ne e, dn_ne (by omega)]
end
theorem updV_same {V : Nat → Value} {k : Nat} {v : Value} (h : V k = v) : updV V k v = V := by
  funext j
  unfold updV
  split
  · rename_i e; subst e; exact h.symm
  · rfl
end Go.Proofs.Ytcedogmhmpcfmaa
namespace Go.Proofs.Ytcedogmhmpcfmaa
open Go.RowKit Go.ChangeShapes Go.WideShapes Go.Deep
set_option linter.unusedVariables false
section
variable {H : Type} {enc : TypeId × Value → H} {W : World} {base : Nat} {v : Value} {p : List MemPlace} {d : DataW H}
theorem lenB {E : Nat → DataW H} {n N : Nat} (h : sumTo (fun i => Rows.uptoBulk (E i)) n + 1 ≤ N) : n + 1 ≤ N := by
  have h1 := len_sumTo (g := fun i => Rows.uptoBulk (E i)) (n := n) (fun i _ => bulk_one (E i))
  omega
theorem oneB {E : Nat → DataW H} {n N i : Nat} (h : sumTo (fun i => Rows.uptoBulk (E i)) n + 1 ≤ N) (hi : i < n) : Rows.uptoBulk (E i) ≤ N := by
  have := le_sumTo (g := fun i => Rows.uptoBulk (E i)) hi
  omega
set_option maxRecDepth 100000 in
theorem open_nums {fuel : Nat} {cs : List Value} {x : DataW H × List MemPlace} (h : DataW.trod enc Try.prog W 0 (fun _ => true) true fuel 30 cs = some x) :
    ∃ (A : Option Addr) (l : List Int) (c : Nat), cs = [.slice A l.length c] ∧ l.length ≤ c ∧ c ≤ 9223372036854775807 ∧ (A = none → l.length = 0) ∧ Rd W 1 (tmC (lst l)) A l.length ∧ (∀ y ∈ l, Wf y) ∧ l.length + 1 ≤ Rows.uptoBulk x.1 := by
  obtain ⟨A, n, c, C, E, hcs, hnc, hcm, hA, hR, hlen, hel, hbulk⟩ := open_rows_bulk Try.underlying30 (sz := 1) (by kernel_rfl) (by omega) h
  have hvi : ∀ j, ∃ z : Int, j < n → C j = [.int .i64 z] ∧ Wf z := fun j => by
    by_cases hj : j < n
    · obtain ⟨m, pl, hm, hy⟩ := hel j hj
      obtain ⟨z, e, _, hw⟩ := DataW.trod_int Try.underlying3 hy
      exact ⟨z, fun _ => ⟨e, hw⟩⟩
    · exact ⟨0, fun h => absurd h hj⟩
  obtain ⟨Z, hZ⟩ := Classical.axiomOfChoice hvi
  refine ⟨A, fl Z n, c, by rw [fl_len]; exact hcs, by rw [fl_len]; exact hnc, hcm, fun h => by rw [fl_len]; exact hA h, ?_, fun y hy => ?_, by rw [fl_len]; exact lenB hbulk⟩
  · rw [fl_len]
    refine hR.congr fun k hk => ?_
    unfold tmC lst
    rw [(hZ k hk).1, List.getD_eq_getElem?_getD, fl_get _ hk]
    rfl
  · obtain ⟨j, hj⟩ := List.mem_iff_getElem?.1 hy
    have hjl : j < n := by have := (List.getElem?_eq_some_iff.1 hj).1; rw [fl_len] at this; exact this
    rw [fl_get _ hjl] at hj
    injection hj with hj
    subst hj
    exact (hZ j hjl).2
set_option maxRecDepth 100000 in
theorem open_linkU (k0 : Value.okWide Try.prog W .any base 22 v) (h0 : DataW.Trod enc Try.prog W 0 (fun _ => true) true 22 v d p) :
    ∃ (A : Option Addr) (n c : Nat) (R : Nat → Li.LR) (vw vl : Nat → Value), v = .slice A n c ∧ n ≤ c ∧ c ≤ 9223372036854775807 ∧ Li.RdL W A n R vw vl ∧ n + 1 ≤ Rows.uptoBulk d ∧ ∀ k, k < n → (R k).ws.length ≤ Rows.uptoBulk d ∧ (R k).ls.length ≤ Rows.uptoBulk d := by
  obtain ⟨a0, l0, cp0, rfl⟩ := okWide_slice Try.underlying22 k0
  obtain ⟨fuel, hf⟩ := h0
  obtain ⟨A, n, c, C, E, hcs, hnc, hcm, hA, hR, hlen, hel, hbulk⟩ := open_rows_bulk Try.underlying22 (sz := 3) (by kernel_rfl) (by omega) hf
  have hv : Value.slice a0 l0 cp0 = .slice A n c := by simpa [Value.cells] using hcs
  clear hf hcs k0
  have hvi : ∀ j, ∃ q : Li.LR × Value × Value, j < n → (C j = [.int .i64 q.1.ref, q.2.1, q.2.2] ∧ Li.Sl W q.2.1 q.1.ws ∧ Li.Sl W q.2.2 q.1.ls) ∧ q.1.ws.length ≤ Rows.uptoBulk (E j) ∧ q.1.ls.length ≤ Rows.uptoBulk (E j) := fun j => by
    by_cases hj : j < n
    · obtain ⟨m, pl, hm, hy⟩ := hel j hj
      obtain ⟨xs, m2, hfu, hx, hln, hxl, hg⟩ := trod_fields_all Try.underlying76 (by kernel_rfl) hy
      have hx3 : xs.length = 3 := hxl
      match hC : C j, hlen j, xs, hx3 with
      | [u0, u1, u2], _, [x0, x1, x2], _ =>
        rw [hC] at hg
        obtain ⟨y0, f0, g0⟩ := hg 0 _ u0 rfl rfl
        obtain ⟨y1, f1, g1⟩ := hg 1 _ u1 rfl rfl
        obtain ⟨y2, f2, g2⟩ := hg 2 _ u2 rfl rfl
        simp at f0 f1 f2
        subst f0 f1 f2
        obtain ⟨z0, e0, _, _⟩ := DataW.trod_int Try.underlying3 g0
        obtain ⟨A1, l1, c1, e1, a1, a2, a3, a4, _, a6⟩ := open_nums g1
        obtain ⟨A2, l2, c2, e2, b1, b2, b3, b4, _, b6⟩ := open_nums g2
        simp at e0 e1 e2
        have hb : Rows.uptoBulk (E j) = Rows.uptoBulk (DataW.agg [x0.1, x1.1, x2.1]) := by rw [show E j = (E j, pl).1 from rfl, hx]; rfl
        simp only [Rows.uptoBulk, Rows.uptoBulkAll] at hb
        exact ⟨⟨⟨z0, l1, l2⟩, u1, u2⟩, fun _ => ⟨⟨by rw [e0], ⟨A1, c1, e1, a1, a2, a3, a4⟩, ⟨A2, c2, e2, b1, b2, b3, b4⟩⟩, by show l1.length ≤ _; omega, by show l2.length ≤ _; omega⟩⟩
    · exact ⟨⟨⟨0, [], []⟩, undef, undef⟩, fun h => absurd h hj⟩
  obtain ⟨Q, hQ⟩ := Classical.axiomOfChoice hvi
  refine ⟨A, n, c, fun k => (Q k).1, fun k => (Q k).2.1, fun k => (Q k).2.2, hv, hnc, hcm, ⟨hR.congr fun k hk => (hQ k hk).1.1, fun k hk => (hQ k hk).1.2⟩, lenB hbulk, fun k hk => ?_⟩
  have h1 : Rows.uptoBulk (E k) ≤ Rows.uptoBulk d := oneB hbulk hk
  exact ⟨Nat.le_trans (hQ k hk).2.1 h1, Nat.le_trans (hQ k hk).2.2 h1⟩
set_option maxRecDepth 100000 in
theorem open_duesU {fuel : Nat} {cs : List Value} {x : DataW H × List MemPlace} (h : DataW.trod enc Try.prog W 0 (fun _ => true) true fuel 23 cs = some x) :
    ∃ (A : Option Addr) (c : Nat) (l : List Ti.Du), cs = [.slice A l.length c] ∧ Ti.Sd W (.slice A l.length c) l ∧ 2 * l.length + 1 ≤ Rows.uptoBulk x.1 := by
  obtain ⟨A, n, c, C, E, hcs, hnc, hcm, hA, hR, hlen, hel, hbulk⟩ := open_rows_bulk Try.underlying23 (sz := 2) (by kernel_rfl) (by omega) h
  have hvi : ∀ j, ∃ q : Ti.Du, j < n → C j = Ti.encDu q ∧ 2 ≤ Rows.uptoBulk (E j) := fun j => by
    by_cases hj : j < n
    · obtain ⟨m, pl, hm, hy⟩ := hel j hj
      obtain ⟨xs, m2, hfu, hx, hln, hxl, hf⟩ := trod_fields_all Try.underlying37 (by kernel_rfl) hy
      have hx2 : xs.length = 2 := hxl
      match hC : C j, hlen j, xs, hx2 with
      | [u0, u1], _, [x0, x1], _ =>
        rw [hC] at hf
        obtain ⟨_, _, f0⟩ := hf 0 _ u0 rfl rfl
        obtain ⟨_, _, f1⟩ := hf 1 _ u1 rfl rfl
        obtain ⟨a, e1, _, _⟩ := DataW.trod_int Try.underlying3 f0
        obtain ⟨i, e2, _, _⟩ := DataW.trod_int Try.underlying3 f1
        simp at e1 e2
        subst e1 e2
        have hb : Rows.uptoBulk (E j) = Rows.uptoBulk (DataW.agg [x0.1, x1.1]) := by rw [show E j = (E j, pl).1 from rfl, hx]; rfl
        simp only [Rows.uptoBulk, Rows.uptoBulkAll] at hb
        have := bulk_one x0.1
        have := bulk_one x1.1
        exact ⟨⟨a, i⟩, fun _ => ⟨rfl, by omega⟩⟩
    · exact ⟨default, fun h => absurd h hj⟩
  obtain ⟨Z, hZ⟩ := Classical.axiomOfChoice hvi
  have hl : ((List.range n).map Z).length = n := by simp
  have h2 : ∀ k, k ≤ n → 2 * k ≤ sumTo (fun i => Rows.uptoBulk (E i)) k := fun k => by
    induction k with
    | zero => intro _; simp [sumTo]
    | succ k ih =>
      intro hk
      have := ih (by omega)
      have := (hZ k (by omega)).2
      simp only [sumTo]
      omega
  have h3 := h2 n (Nat.le_refl _)
  refine ⟨A, c, (List.range n).map Z, by rw [hl]; exact hcs, ⟨A, c, by rw [hl], by omega, hcm, fun h => by rw [hl]; exact hA h, ?_⟩, by omega⟩
  rw [hl]
  refine hR.congr fun k hk => ?_
  rw [(hZ k hk).1]
  unfold Ti.duC Ti.encDu Ti.nthD
  simp [hk]
set_option maxRecDepth 100000 in
theorem open_timersU (k0 : Value.okWide Try.prog W .any base 25 v) (h0 : DataW.Trod enc Try.prog W 0 (fun _ => true) true 25 v d p) :
    ∃ (now : Int) (A : Option Addr) (c : Nat) (l : List Ti.Du), v = .agg #[.int .i64 now, .slice A l.length c] ∧ Ti.Sd W (.slice A l.length c) l ∧ 2 * l.length + 1 ≤ Rows.uptoBulk d := by
  obtain ⟨⟨cs⟩, rfl, _⟩ := okWide_struct Try.underlying25 k0
  clear k0
  obtain ⟨fuel, hf⟩ := h0
  have hf : DataW.trod enc Try.prog W 0 (fun _ => true) true fuel 25 cs = some (d, p) := hf
  obtain ⟨xs, n, hfu, hx, hlen, hxl, hfl⟩ := trod_fields_all Try.underlying25 (by kernel_rfl) hf
  have hl2 : cs.length = 2 := hlen.trans (by kernel_rfl)
  have hx2 : xs.length = 2 := hxl
  match cs, hl2, xs, hx2 with
  | [c0, c1], _, [x0, x1], _ =>
    obtain ⟨y0, f0, h0⟩ := hfl 0 _ c0 rfl rfl
    obtain ⟨y1, f1, h1⟩ := hfl 1 _ c1 rfl rfl
    simp at f0 f1
    subst f0 f1
    obtain ⟨z0, e0, _, _⟩ := DataW.trod_int Try.underlying3 h0
    obtain ⟨A, c, l, e1, a1, a2⟩ := open_duesU h1
    simp at e0 e1
    subst e0 e1
    have hb : Rows.uptoBulk d = Rows.uptoBulk (DataW.agg [x0.1, x1.1]) := by rw [show d = (d, p).1 from rfl, hx]; rfl
    simp only [Rows.uptoBulk, Rows.uptoBulkAll] at hb
    exact ⟨z0, A, c, l, rfl, a1, by omega⟩
set_option maxRecDepth 100000 in
theorem open_linesU (k0 : Value.okWide Try.prog W .any base 27 v) (h0 : DataW.Trod enc Try.prog W 0 (fun _ => true) true 27 v d p) :
    ∃ (A : Option Addr) (n c : Nat) (Q : Nat → List Int), v = .slice A n c ∧ n ≤ c ∧ c ≤ 9223372036854775807 ∧ (A = none → n = 0) ∧ St.RdLs W (fun _ => True) A n Q ∧ n + 1 ≤ Rows.uptoBulk d ∧ ∀ i, i < n → (Q i).length ≤ Rows.uptoBulk d ∧ ∀ x ∈ Q i, Wf x := by
  obtain ⟨a0, l0, cp0, rfl⟩ := okWide_slice Try.underlying27 k0
  obtain ⟨fuel, hf⟩ := h0
  obtain ⟨A, n, c, C, E, hcs, hnc, hcm, hA, hR, hlen, hel, hbulk⟩ := open_rows_bulk Try.underlying27 (sz := 1) (by kernel_rfl) (by omega) hf
  have hv : Value.slice a0 l0 cp0 = .slice A n c := by simpa [Value.cells] using hcs
  have hvi : ∀ i, ∃ q : List Int, i < n → (∃ qA qc, C i = [.slice qA q.length qc] ∧ q.length ≤ qc ∧ qc ≤ 9223372036854775807 ∧ (qA = none → q.length = 0) ∧ St.RdI W (fun _ => True) qA q) ∧ q.length ≤ Rows.uptoBulk (E i) ∧ ∀ x ∈ q, Wf x := fun i => by
    by_cases hi : i < n
    · obtain ⟨m, pl, hm, hy⟩ := hel i hi
      obtain ⟨qA, q, qc, e1, a1, a2, a3, a4, a5, a6⟩ := open_nums hy
      refine ⟨q, fun _ => ⟨⟨qA, qc, e1, a1, a2, a3, fun h1 => ?_⟩, by simp only at a6; omega, a5⟩⟩
      obtain ⟨b, off, g1, g2, g3⟩ := a4 h1
      exact ⟨b, off, g1, g2, trivial, fun j hj => by simpa using g3 j hj 0 _ rfl⟩
    · exact ⟨[], fun h => absurd h hi⟩
  obtain ⟨Q, hQ⟩ := Classical.axiomOfChoice hvi
  refine ⟨A, n, c, Q, hv, hnc, hcm, hA, fun h1 => ?_, lenB hbulk, fun i hi => ⟨Nat.le_trans (hQ i hi).2.1 (oneB hbulk hi), (hQ i hi).2.2⟩⟩
  obtain ⟨b, off, e1, e2, e3⟩ := hR h1
  refine ⟨b, off, e1, e2, trivial, fun i hi => ?_⟩
  obtain ⟨⟨qA, qc, g1, g2, g3, g4, g5⟩, _⟩ := hQ i hi
  exact ⟨qA, qc, by simpa using e3 i hi 0 _ (by rw [g1]; rfl), g2, g3, g4, g5⟩
set_option maxRecDepth 100000 in
theorem open_capsU (k0 : Value.okWide Try.prog W .any base 28 v) (h0 : DataW.Trod enc Try.prog W 0 (fun _ => true) true 28 v d p) :
    ∃ (A : Option Addr) (n c : Nat) (R : Nat → Lm.LRow), v = .slice A n c ∧ n ≤ c ∧ c ≤ 9223372036854775807 ∧ (A = none → n = 0) ∧ Rd W 5 (Lm.rowC R) A n ∧ n + 1 ≤ Rows.uptoBulk d := by
  obtain ⟨a0, l0, cp0, rfl⟩ := okWide_slice Try.underlying28 k0
  obtain ⟨fuel, hf⟩ := h0
  obtain ⟨A, n, c, C, E, hcs, hnc, hcm, hA, hR, hlen, hel, hbulk⟩ := open_rows_bulk Try.underlying28 (sz := 5) (by kernel_rfl) (by omega) hf
  have hv : Value.slice a0 l0 cp0 = .slice A n c := by simpa [Value.cells] using hcs
  have hall : ∀ i, ∃ q : Lm.LRow, i < n → C i = Lm.rowC (fun _ => q) i := fun i => by
    by_cases hi : i < n
    · obtain ⟨m, pl, hm, hy⟩ := hel i hi
      have hf := trod_fields Try.underlying40 (by kernel_rfl) hy
      match hC : C i, hlen i with
      | [c0, c1, c2, c3, c4], _ =>
        rw [hC] at hf
        obtain ⟨m0, y0, h0⟩ := hf 0 _ c0 rfl rfl
        obtain ⟨m1, y1, h1⟩ := hf 1 _ c1 rfl rfl
        obtain ⟨m2, y2, h2⟩ := hf 2 _ c2 rfl rfl
        obtain ⟨m3, y3, h3⟩ := hf 3 _ c3 rfl rfl
        obtain ⟨m4, y4, h4⟩ := hf 4 _ c4 rfl rfl
        obtain ⟨z0, e0, _, _⟩ := DataW.trod_int Try.underlying3 h0
        obtain ⟨z1, e1, _, _⟩ := DataW.trod_int Try.underlying3 h1
        obtain ⟨z2, e2, _, _⟩ := DataW.trod_int Try.underlying3 h2
        obtain ⟨z3, e3, _, _⟩ := DataW.trod_int Try.underlying3 h3
        obtain ⟨z4, e4, _, _⟩ := DataW.trod_int Try.underlying3 h4
        simp at e0 e1 e2 e3 e4
        exact ⟨⟨z0, z1, z2, z3, z4⟩, fun _ => by rw [e0, e1, e2, e3, e4]; rfl⟩
    · exact ⟨⟨0, 0, 0, 0, 0⟩, fun h => absurd h hi⟩
  obtain ⟨Q, hQ⟩ := Classical.axiomOfChoice hall
  exact ⟨A, n, c, Q, hv, hnc, hcm, hA, hR.congr fun k hk => hQ k hk, lenB hbulk⟩
set_option maxRecDepth 100000 in
theorem open_kidsU {fuel : Nat} {cs : List Value} {x : DataW H × List MemPlace} (h : DataW.trod enc Try.prog W 0 (fun _ => true) true fuel 29 cs = some x) :
    ∃ (A : Option Addr) (n c : Nat) (R : Nat → Wa.Ch), cs = [.slice A n c] ∧ n ≤ c ∧ c ≤ 9223372036854775807 ∧ (A = none → n = 0) ∧ Rd W 3 (Wa.chC R) A n ∧ n + 1 ≤ Rows.uptoBulk x.1 := by
  obtain ⟨A, n, c, C, E, hcs, hnc, hcm, hA, hR, hlen, hel, hbulk⟩ := open_rows_bulk Try.underlying29 (sz := 3) (by kernel_rfl) (by omega) h
  have hall : ∀ i, ∃ q : Wa.Ch, i < n → C i = Wa.chC (fun _ => q) i := fun i => by
    by_cases hi : i < n
    · obtain ⟨m, pl, hm, hy⟩ := hel i hi
      have hg := trod_fields Try.underlying43 (by kernel_rfl) hy
      match hC : C i, hlen i with
      | [u0, u1, u2], _ =>
        rw [hC] at hg
        obtain ⟨_, _, g0⟩ := hg 0 _ u0 rfl rfl
        obtain ⟨_, _, g1⟩ := hg 1 _ u1 rfl rfl
        obtain ⟨_, _, g2⟩ := hg 2 _ u2 rfl rfl
        obtain ⟨z0, e0, _, _⟩ := DataW.trod_int Try.underlying3 g0
        obtain ⟨z1, e1, _, _⟩ := DataW.trod_int Try.underlying3 g1
        obtain ⟨z2, e2, _, _⟩ := DataW.trod_bool Try.underlying4 g2
        simp at e0 e1 e2
        exact ⟨⟨z0, z1, z2⟩, fun _ => by rw [e0, e1, e2]; rfl⟩
    · exact ⟨⟨0, 0, false⟩, fun h => absurd h hi⟩
  obtain ⟨Q, hQ⟩ := Classical.axiomOfChoice hall
  exact ⟨A, n, c, Q, hcs, hnc, hcm, hA, hR.congr fun k hk => hQ k hk, lenB hbulk⟩
set_option maxRecDepth 100000 in
theorem open_wardU (k0 : Value.okWide Try.prog W .any base 32 v) (h0 : DataW.Trod enc Try.prog W 0 (fun _ => true) true 32 v d p) :
    ∃ (how most win : Int) (A : Option Addr) (n c : Nat) (R : Nat → Wa.Ch) (B : Option Addr) (ts : List Int) (e : Nat), v = .agg #[.int .i64 how, .int .i64 most, .int .i64 win, .slice A n c, .slice B ts.length e] ∧ n ≤ c ∧ c ≤ 9223372036854775807 ∧ (A = none → n = 0) ∧ Rd W 3 (Wa.chC R) A n ∧ n ≤ Rows.uptoBulk d ∧ ts.length ≤ e ∧ e ≤ 9223372036854775807 ∧ (B = none → ts.length = 0) ∧ Rd W 1 (tmC (lst ts)) B ts.length ∧ ts.length ≤ Rows.uptoBulk d := by
  obtain ⟨⟨cs⟩, rfl, _⟩ := okWide_struct Try.underlying32 k0
  clear k0
  obtain ⟨fuel, hf⟩ := h0
  have hf : DataW.trod enc Try.prog W 0 (fun _ => true) true fuel 32 cs = some (d, p) := hf
  obtain ⟨xs, n, hfu, hx, hlen, hxl, hfl⟩ := trod_fields_all Try.underlying32 (by kernel_rfl) hf
  have hl5 : cs.length = 5 := hlen.trans (by kernel_rfl)
  have hx5 : xs.length = 5 := hxl
  match cs, hl5, xs, hx5 with
  | [c0, c1, c2, c3, c4], _, [x0, x1, x2, x3, x4], _ =>
    obtain ⟨y0, f0, h0⟩ := hfl 0 _ c0 rfl rfl
    obtain ⟨y1, f1, h1⟩ := hfl 1 _ c1 rfl rfl
    obtain ⟨y2, f2, h2⟩ := hfl 2 _ c2 rfl rfl
    obtain ⟨y3, f3, h3⟩ := hfl 3 _ c3 rfl rfl
    obtain ⟨y4, f4, h4⟩ := hfl 4 _ c4 rfl rfl
    simp at f0 f1 f2 f3 f4
    subst f0 f1 f2 f3 f4
    obtain ⟨z0, e0, _, _⟩ := DataW.trod_int Try.underlying3 h0
    obtain ⟨z1, e1, _, _⟩ := DataW.trod_int Try.underlying3 h1
    obtain ⟨z2, e2, _, _⟩ := DataW.trod_int Try.underlying3 h2
    obtain ⟨A, m, c, R, e3, a1, a2, a3, a4, a5⟩ := open_kidsU h3
    obtain ⟨B, ts, e, e4, b1, b2, b3, b4, _, b6⟩ := open_nums h4
    simp at e0 e1 e2 e3 e4
    subst e0 e1 e2 e3 e4
    have hb : Rows.uptoBulk d = Rows.uptoBulk (DataW.agg [x0.1, x1.1, x2.1, x3.1, x4.1]) := by rw [show d = (d, p).1 from rfl, hx]; rfl
    simp only [Rows.uptoBulk, Rows.uptoBulkAll] at hb
    exact ⟨z0, z1, z2, A, m, c, R, B, ts, e, rfl, a1, a2, a3, a4, by omega, b1, b2, b3, b4, by omega⟩
end
theorem bulk_eight {H : Type} {d0 d1 d2 d3 d4 d5 d6 d7 : DataW H} (hk : Rows.uptoSmall H [d0, d1, d2, d3, d4, d5, d6, d7] = true) : Rows.uptoBulk d0 ≤ 1048576 ∧ Rows.uptoBulk d3 ≤ 1048576 ∧ Rows.uptoBulk d4 ≤ 1048576 ∧ Rows.uptoBulk d5 ≤ 1048576 ∧ Rows.uptoBulk d6 ≤ 1048576 := by
  have h := of_decide_eq_true hk
  simp only [Rows.uptoBulkAll] at h
  omega
end Go.Proofs.Ytcedogmhmpcfmaa
