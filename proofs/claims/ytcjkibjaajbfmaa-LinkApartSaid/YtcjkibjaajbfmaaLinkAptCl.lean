/- The closure of the law LinkApart: a row is what it was. -/
import Derived.Test.YtcjkibjaajbfmaaLinkOnceWalk
namespace Go.Proofs.Ytcjkibjaajbfmaa
open Go.RowKit
set_option linter.unusedVariables false
theorem cl1_cl : EqRow 40 := fun a A B n m c d ref b w hb hc => by
  go_enter Try.func40, Try.ntmps40
  go_wp2_with fail
  go_ret
  exact ⟨rfl, (Below.refl _ _).alloc (Nat.le_refl _) _⟩
theorem cl1_enters : Enters Try.prog 40 := fun _ _ => by kernel_rfl
theorem cl2_cl : EqRow 43 := fun a A B n m c d ref b w hb hc => by
  go_enter Try.func43, Try.ntmps43
  go_wp2_with fail
  go_ret
  exact ⟨rfl, (Below.refl _ _).alloc (Nat.le_refl _) _⟩
theorem cl2_enters : Enters Try.prog 43 := fun _ _ => by kernel_rfl
/-- what the closure captured -/
structure SamePre (w : World) (b7 b4 b9 : Nat) (third : Int) (A : Option Addr) (n c : Nat) (R : Nat → LR) (vw vl : Nat → Value) (i : Nat) : Prop where
  c7 : w.cell? ⟨b7, 0, none⟩ = some (.int .i64 third)
  c4 : w.cell? ⟨b4, 0, none⟩ = some (.slice A n c)
  c9 : w.cell? ⟨b9, 0, none⟩ = some (.int .i64 i)
  h7 : b7 < w.heap.size
  h4 : b4 < w.heap.size
  h9 : b9 < w.heap.size
  rd : RdL w A n R vw vl
  ok : OkIx R n third i
theorem SamePre.below {w w' : World} {b7 b4 b9 : Nat} {third : Int} {A : Option Addr} {n c : Nat} {R : Nat → LR} {vw vl : Nat → Value} {i : Nat} (h : SamePre w b7 b4 b9 third A n c R vw vl i) (hb : Below w.heap.size w w') : SamePre w' b7 b4 b9 third A n c R vw vl i :=
  ⟨(hb.cell (p := ⟨_, _, none⟩) h.h7).trans h.c7, (hb.cell (p := ⟨_, _, none⟩) h.h4).trans h.c4, (hb.cell (p := ⟨_, _, none⟩) h.h9).trans h.c9, Nat.lt_of_lt_of_le h.h7 hb.size, Nat.lt_of_lt_of_le h.h4 hb.size, Nat.lt_of_lt_of_le h.h9 hb.size, h.rd.below hb, h.ok⟩
def Kept (R R' : Nat → LR) (n' : Nat) (third : Int) (i : Nat) : Prop := ∃ j, OkIx R' n' third j ∧ (R' j).ws = (R i).ws ∧ (R' j).ls = (R i).ls
set_option maxRecDepth 100000 in
set_option maxHeartbeats 4000000 in
theorem same_any (b7 b4 b9 : Nat) (third : Int) (A : Option Addr) (n c : Nat) (R : Nat → LR) (vw vl : Nat → Value) (i : Nat) (A' : Option Addr) (n' c' : Nat) (R' : Nat → LR) (vw' vl' : Nat → Value) (w : World)
    (hp : SamePre w b7 b4 b9 third A n c R vw vl i) (hn : n' ≤ c') (hc : c' ≤ 9223372036854775807) (hR : RdL w A' n' R' vw' vl') (hk : Kept R R' n' third i) :
    Calls Try.prog 42 #[.slice A' n' c', .pointer (some ⟨b7, 0, none⟩), .pointer (some ⟨b4, 0, none⟩), .pointer (some ⟨b9, 0, none⟩)] w fun e w' => e = .returned (.bool true) ∧ Below w.heap.size w w' := by
  obtain ⟨j, hj, hws, hls⟩ := hk
  have HJ := Lib.hid hj
  have HR := Lib.hid hR
  have HP := Lib.hid hp
  have c7 := hp.c7
  have h7 := hp.h7
  have hjn := hj.2.1
  have hin := hp.ok.2.1
  have hw100 := (hp.ok.1.2 i hin).2.1
  have hl100 := (hp.ok.1.2 i hin).2.2.1
  have HX := Lib.hid hj.ix
  have HWS := Lib.hid hws
  have HLS := Lib.hid hls
  clear hR hj hp hws hls
  go_enter Try.func42, Try.ntmps42
  go_wp2_with fail
  refine (ix_row _ cl2_enters cl2_cl A' n' c' R' vw' vl' third b7 _ (by omega) HR.out h7 c7).mono ?_
  rintro e w1 ⟨rfl, hb1⟩
  rw [HX.out]
  have HP1 := Lib.hid (HP.out.below hb1)
  have HR1 := Lib.hid (HR.out.below hb1)
  have HB1 := Lib.hid hb1
  clear hb1 c7
  obtain ⟨b, off, rfl, hb, hcell⟩ := HP1.out.rd.row (by omega)
  obtain ⟨b', off', rfl, hb', hcell'⟩ := HR1.out.row (by omega)
  obtain ⟨hSw, hSl⟩ := HP1.out.rd.each i hin
  obtain ⟨hTw, hTl⟩ := HR1.out.each j hjn
  rw [HWS.out] at hTw
  rw [HLS.out] at hTl
  obtain ⟨wA, wc, hvw, x1, x2, x3, x4⟩ := hSw
  obtain ⟨lA, lc, hvl, y1, y2, y3, y4⟩ := hSl
  obtain ⟨wB, wd, hvw2, u1, u2, u3, u4⟩ := hTw
  obtain ⟨lB, ld, hvl2, z1, z2, z3, z4⟩ := hTl
  have q0 : w1.drew.cell? ⟨b4, 0, none⟩ = some (.slice (some ⟨b, off, none⟩) n c) := HP1.out.c4
  have q1 : w1.drew.cell? ⟨b9, 0, none⟩ = some (.int .i64 i) := HP1.out.c9
  have q2 : w1.drew.cell? ⟨b, off + i * 3 + 1, none⟩ = some (.slice wA (R i).ws.length wc) := hcell i hin 1 _ (by simp [rwC, hvw])
  have q3 : w1.drew.cell? ⟨b, off + i * 3 + 2, none⟩ = some (.slice lA (R i).ls.length lc) := hcell i hin 2 _ (by simp [rwC, hvl])
  have q4 : w1.drew.cell? ⟨b', off' + j * 3 + 1, none⟩ = some (.slice wB (R i).ws.length wd) := hcell' j hjn 1 _ (by simp [rwC, hvw2])
  have q5 : w1.drew.cell? ⟨b', off' + j * 3 + 2, none⟩ = some (.slice lB (R i).ls.length ld) := hcell' j hjn 2 _ (by simp [rwC, hvl2])
  have K6 := Lib.hid (show ∀ W : World, Below w1.drew.heap.size w1.drew W → W.cell? ⟨b4, 0, none⟩ = some (.slice (some ⟨b, off, none⟩) n c) ∧ W.cell? ⟨b9, 0, none⟩ = some (.int .i64 i) ∧ W.cell? ⟨b, off + i * 3 + 1, none⟩ = some (.slice wA (R i).ws.length wc) ∧ W.cell? ⟨b, off + i * 3 + 2, none⟩ = some (.slice lA (R i).ls.length lc) ∧ W.cell? ⟨b', off' + j * 3 + 1, none⟩ = some (.slice wB (R i).ws.length wd) ∧ W.cell? ⟨b', off' + j * 3 + 2, none⟩ = some (.slice lB (R i).ls.length ld) from fun W hW =>
    ⟨(hW.cell (p := ⟨_, _, none⟩) HP1.out.h4).trans q0, (hW.cell (p := ⟨_, _, none⟩) HP1.out.h9).trans q1, (hW.cell (p := ⟨_, _, none⟩) hb).trans q2, (hW.cell (p := ⟨_, _, none⟩) hb).trans q3, (hW.cell (p := ⟨_, _, none⟩) hb').trans q4, (hW.cell (p := ⟨_, _, none⟩) hb').trans q5⟩)
  have RW1 := Lib.hid (show Rd w1.drew 1 (tmC (lst (R i).ws)) wB (R i).ws.length from u4)
  have RW2 := Lib.hid (show Rd w1.drew 1 (tmC (lst (R i).ws)) wA (R i).ws.length from x4)
  have RL1 := Lib.hid (show Rd w1.drew 1 (tmC (lst (R i).ls)) lB (R i).ls.length from z4)
  have RL2 := Lib.hid (show Rd w1.drew 1 (tmC (lst (R i).ls)) lA (R i).ls.length from y4)
  have HR1d := Lib.hid (show RdL w1.drew (some ⟨b', off', none⟩) n' R' vw' vl' from ⟨HR1.out.row, HR1.out.each⟩)
  have j0 : (0 : Int) ≤ (j : Int) := by omega
  have j1 : (j : Int) < (n' : Int) := by omega
  have i0 : (0 : Int) ≤ (i : Int) := by omega
  have i1 : (i : Int) < (n : Int) := by omega
  clear hcell hcell' hvw hvl hvw2 hvl2 x3 x4 y3 y4 u3 u4 z3 z4
  go_wp2_with fail
  go_region_held3 (fun W => W.cell? ⟨b4, 0, none⟩ = some (.slice (some ⟨b, off, none⟩) n c) ∧ W.cell? ⟨b9, 0, none⟩ = some (.int .i64 i) ∧ W.cell? ⟨b, off + i * 3 + 1, none⟩ = some (.slice wA (R i).ws.length wc) ∧ W.cell? ⟨b, off + i * 3 + 2, none⟩ = some (.slice lA (R i).ls.length lc) ∧ W.cell? ⟨b', off' + j * 3 + 1, none⟩ = some (.slice wB (R i).ws.length wd) ∧ W.cell? ⟨b', off' + j * 3 + 2, none⟩ = some (.slice lB (R i).ls.length ld))
    (first | exact ⟨q0, q1, q2, q3, q4, q5⟩ | exact K6.out _ HBa.out | exact K6.out _ HBb.out | exact K6.out _ HBc.out | go_keep)
    (first
      | (go_at_call_of 23 (Value.slice wB (R i).ws.length wd); refine (equalI_lists wB wA _ _ wd wc (R i).ws w1.drew rfl rfl (by omega) RW1.out RW2.out).mono ?_; rintro e wa ⟨rfl, hba⟩; have HBa := Lib.hid hba; clear hba)
      | (go_at_call_of 23 (Value.slice lB (R i).ls.length ld); refine (equalI_lists lB lA _ _ ld lc (R i).ls wa rfl rfl (by omega) (RL1.out.below HBa.out) (RL2.out.below HBa.out)).mono ?_; rintro e wb ⟨rfl, hbb⟩; have HBb := Lib.hid (HBa.out.trans (hbb.mono HBa.out.size)); clear hbb)
      | (go_at_call 41; refine (check_any (some ⟨b', off', none⟩) n' c' R' vw' vl' wb hn hc (HR1d.out.below HBb.out)).mono ?_; rintro e wc' ⟨x, rfl, hx, hbc⟩; obtain rfl : x = 0 := hx.2 HJ.out.1; have HBc := Lib.hid (HBb.out.trans (hbc.mono HBb.out.size)); clear hbc hx))
  all_goals
    go_wp2_with fail
    go_ret
    exact ⟨rfl, HB1.out.trans ((show Below w1.heap.size w1 wc' from below_drew' HBc.out).mono HB1.out.size)⟩
end Go.Proofs.Ytcjkibjaajbfmaa
