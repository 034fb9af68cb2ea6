/- The walk of the law TimerSorted. -/
import Derived.Test.YthnoahldolfffaaTimerOpen
import Derived.Test.YthnoahldolfffaaTimerNext
import Derived.Test.YthnoahldolfffaaTimerPlain
import Derived.Deep.DeepCutAuto
import Derived.Deep.CutBlock
import Derived.Deep.AppendLies
import Derived.Deep.RegionLaw
namespace Go.Proofs.Ythnoahldolfffaa
open Go.RowKit Go.ChangeShapes Go.WideShapes Go.Deep
set_option linter.unusedVariables false
/-- a row stays where another block changes -/
theorem Sd.grownX {w w' : World} {A : Option Addr} {c : Nat} {l : List Du} {row : Option Nat} (h : Sd w (.slice A l.length c) l) (hg : w.grownBy w' row) (hne : 0 < l.length → ∀ a, A = some a → some a.block ≠ row) : Sd w' (.slice A l.length c) l := by
  obtain ⟨A', c', e, h1, h2, h3, h4⟩ := h
  injection e with e1 _ e3
  subst e1 e3
  refine ⟨_, _, rfl, h1, h2, h3, fun h0 => ?_⟩
  obtain ⟨b, off, rfl, hlt, hc⟩ := h4 h0
  exact ⟨b, off, rfl, by have := hg.size; omega, fun k hk j u hu => (grown_cell hg hlt (hne h0 _ rfl)).trans (hc k hk j u hu)⟩
def prC (R : Nat → Int × Int) : Nat → List Value := fun k => [.int .i64 (R k).1, .int .i64 (R k).2]
/-- the law's box of timers -/
structure KB (wx : World) (b : Nat) (now : Int) (v : Value) : Prop where
  c0 : wx.cell? ⟨b, 0, none⟩ = some (.int .i64 now)
  c1 : wx.cell? ⟨b, 1, none⟩ = some v
  fr : ∀ o, wx.frozen? ⟨b, o, none⟩ = false
  sz : b < wx.heap.size
theorem KB.below {wx wy : World} {b : Nat} {now : Int} {v : Value} (h : KB wx b now v) (hb : Below wx.heap.size wx wy) : KB wy b now v :=
  ⟨(hb.cell (p := ⟨b, 0, none⟩) h.sz).trans h.c0, (hb.cell (p := ⟨b, 1, none⟩) h.sz).trans h.c1, fun o => (hb.frozen (p := ⟨b, o, none⟩) h.sz).trans (h.fr o), by have := hb.size; have := h.sz; omega⟩
theorem KB.grown {wx wy : World} {b : Nat} {now : Int} {v : Value} {row : Option Nat} (h : KB wx b now v) (hg : wx.grownBy wy row) (hr : some b ≠ row) : KB wy b now v :=
  ⟨(grown_cell hg (b := b) (o := 0) h.sz hr).trans h.c0, (grown_cell hg (b := b) (o := 1) h.sz hr).trans h.c1, fun o => (grown_frozen hg (b := b) (o := o) h.sz hr).trans (h.fr o), by have := hg.size; have := h.sz; omega⟩
theorem KB.put {wx : World} {b : Nat} {now : Int} {v : Value} (h : KB wx b now v) (n : Int) (u : Value) : KB ((wx.setCell ⟨b, 0, none⟩ (.int .i64 n)).setCell ⟨b, 1, none⟩ u) b n u := by
  have x0 : (wx.cell? ⟨b, 0, none⟩).isSome = true := by rw [h.c0]; rfl
  have x1 : (wx.cell? ⟨b, 1, none⟩).isSome = true := by rw [h.c1]; rfl
  constructor
  · simp [go_sem, x0]
  · simp [go_sem, x1]
  · intro o; simp [go_sem, h.fr]
  · simpa using h.sz
theorem kb_grown (wx : World) (b : Nat) (u0 u1 : Value) : wx.grownBy ((wx.setCell ⟨b, 0, none⟩ u0).setCell ⟨b, 1, none⟩ u1) (some b) := grown_set (grown_set (grown_self _ _) _) _
/-- the law's state behind some sets -/
def KS (w wx : World) (now : Int) : Prop := ∃ (A : Option Addr) (c : Nat) (l : List Du), KB wx w.heap.size now (.slice A l.length c) ∧ Sd wx (.slice A l.length c) l ∧ (0 < l.length → ∀ a, A = some a → some a.block ≠ some w.heap.size) ∧ OkLs now l ∧ Below w.heap.size w wx
/-- the last of k timers -/
def lastD (now : Int) (l : List Du) : Nat → Du
  | 0 => ⟨now, 0⟩
  | k + 1 => nthD l k
theorem last_law {now : Int} {l : List Du} {k : Nat} (h : OkLs now l) (hk : k < l.length) : ¬ (nthD l k).at_ < (lastD now l k).at_ ∧ ((nthD l k).at_ = (lastD now l k).at_ → ¬ (nthD l k).id ≤ (lastD now l k).id) := by
  match k, hk with
  | 0, hk =>
    have := (h.ats _ (List.getElem_mem hk)).1
    rw [nthD_get hk]
    simp only [lastD]
    constructor
    · omega
    · intro e; omega
  | j + 1, hk =>
    have h4 := List.pairwise_iff_getElem.1 h.ord j (j + 1) (by omega) hk (by omega)
    rw [cmpD_neg] at h4
    simp only [lastD]
    rw [nthD_get hk, nthD_get (show j < l.length by omega)]
    constructor
    · omega
    · intro e; omega
theorem last_ids {now : Int} {l : List Du} {k : Nat} (h : OkLs now l) (hk : k < l.length) : (nthD l k).id ∉ (l.take k).map Du.id := by
  intro hm
  obtain ⟨x, hx, e⟩ := List.mem_map.1 hm
  obtain ⟨j, hj, rfl⟩ := List.mem_iff_getElem.1 hx
  rw [List.length_take] at hj
  rw [List.getElem_take, nthD_get hk] at e
  have h1 := h.ids
  rw [List.nodup_iff_pairwise_ne, List.pairwise_map] at h1
  exact List.pairwise_iff_getElem.1 h1 j k (by omega) hk (by omega) e
theorem KS.below {w wx wy : World} {now : Int} (h : KS w wx now) (hb : Below wx.heap.size wx wy) : KS w wy now := by
  obtain ⟨A, c, l, h1, h2, h3, h4, h5⟩ := h
  exact ⟨A, c, l, h1.below hb, h2.below hb, h3, h4, h5.trans (hb.mono h5.size)⟩
theorem KS.alloc {w wx : World} {now : Int} (h : KS w wx now) (o : Obj) : KS w (wx.alloc o) now := h.below ((Below.refl _ _).alloc (Nat.le_refl _) _)
theorem step_append_int {ops : Array Oper} {o : Oper} {a : Act} {w : World} {K : Act → World → Prop} {Q : Exit → Act → World → Prop} {E : Prop} (hgd : o.guard = none) (s x : Operand)
    (ho : o.op = .call { callee := .builtin .append, args := #[s, x], argTypes := #[32, 32] }) (base : Nat) (v : Value) (l : List Int) (hs : a.eval s = v) (hown : OwnI w base v l)
    (H : Nat) (hH : w.heap.size = H) (y : Int) (b : Nat) (hx : a.eval x = .slice (some ⟨b, 0, none⟩) 1 1) (hy : w.cell? ⟨b, 0, none⟩ = some (.int .i64 y)) (hl : l.length ≤ 1000000) (hbase : base ≤ w.heap.size)
    (h : ∀ g cap w', OwnI w' base (.slice (some ⟨g, 0, none⟩) (l.length + 1) cap) (l ++ [y]) → w.grownBy w' v.ownBlock → (v.ownBlock = some g ∨ g = H) → K (a.put o.dst (.slice (some ⟨g, 0, none⟩) (l.length + 1) cap)) w') :
    if Region.wanted o (yielded ops a.tmps) = true then Oper.wp Try.prog o a w K Q else E := by
  obtain ⟨i0, hi, hz0, hz1, hz2⟩ := info_parts infoI
  refine step_append_lies w hgd s x 32 ho base 3 i0 (.int .i64 0) 1 8 Try.underlying32 hi hz0 hz1 hz2 rfl (by decide) v l.length (encI l) hs hown ⟨b, 0, none⟩ 1 1 [.int .i64 y] hx rfl ?_ ?_ (by omega) ?_ ?_ hbase H hH ?_
  · intro j u hj
    match j, hj with
    | 0, hj => simp at hj; subst hj; simpa [Addr.add] using hy
  · intro u hu; simp at hu; subst hu; rfl
  · unfold maxLen; omega
  · omega
  · intro g cap w' h1 h2 h3 _
    refine h g cap w' ?_ h2 h3
    unfold OwnI encI
    rw [List.length_append, List.map_append]
    exact h1
set_option maxHeartbeats 8000000 in
set_option maxRecDepth 100000 in
theorem timerSorted_go (now : Int) (A : Option Addr) (c : Nat) (l : List Du) (SA : Option Addr) (sn sc : Nat) (R : Nat → Int × Int) (w : World) (hS : Sd w (.slice A l.length c) l) (hs1 : sn ≤ sc) (hs2 : sc ≤ 9223372036854775807) (hR : Rd w 2 (prC R) SA sn) :
    Calls Try.prog 3 #[.agg #[.int .i64 now, .slice A l.length c], .slice SA sn sc] w fun e w' => e = .returned (.bool true) ∧ Below w.heap.size w w' := by
  have HS := Lib.hid hS
  have HR := Lib.hid hR
  obtain ⟨k1, k2⟩ := Sd.cap hS
  have HA := Lib.hid (show 0 < l.length → ∀ a, A = some a → some a.block ≠ some w.heap.size from fun h0 a ha e => by
    obtain ⟨b, off, hb, hlt, _⟩ := (Sd.rd hS) h0
    rw [ha] at hb
    injection hb with hb
    injection e with e
    rw [hb] at e
    have e' : b = w.heap.size := e
    omega)
  clear hS hR
  obtain ⟨W0, hW0⟩ : ∃ W0, W0 = w.alloc (.cells #[.int .i64 now, .slice A l.length c] 24) := ⟨_, rfl⟩
  have HB0 := Lib.hid (show Below w.heap.size w W0 by rw [hW0]; exact (Below.refl _ _).alloc (Nat.le_refl _) _)
  have HT0 := Lib.hid (show KB W0 w.heap.size now (.slice A l.length c) by rw [hW0]; exact ⟨by simp, by simp, fun o => by simp, by simp⟩)
  go_enter Try.func3, Try.ntmps3
  go_wp2_with fail
  rw [← hW0]
  clear hW0
  refine (timers_any _).mono ?_
  rintro e w1 ⟨rfl, hb1⟩
  have HT1 := Lib.hid (HT0.out.below hb1)
  have HB1 := Lib.hid (HB0.out.trans (hb1.mono HB0.out.size))
  obtain ⟨t0, t1, tf, tz⟩ := HT1.out
  clear hb1
  go_wp2_with fail
  refine (check_any now A l.length c (nthD l) _ k1 k2 (HS.out.below HB1.out).rd).mono ?_
  rintro e w2 ⟨x, rfl, hx, hb2⟩
  have HT2 := Lib.hid (HT1.out.below hb2)
  have HB2 := Lib.hid (HB1.out.trans (hb2.mono HB1.out.size))
  have HX := Lib.hid hx
  clear hx hb2 t0 t1 tf tz
  by_cases hx0 : x = 0
  rotate_left
  · have x0 : (x != 0) = true := by simpa using hx0
    clear hx0
    go_wp2_with fail
    refine (timers_any _).mono ?_
    rintro e w3 ⟨rfl, hb3⟩
    have HB3 := Lib.hid (HB2.out.trans (hb3.mono HB2.out.size))
    clear hb3
    go_wp2_with fail
    go_ret
    exact ⟨rfl, HB3.out⟩
  subst hx0
  have HOK := Lib.hid ((show OkTl now l from HX.out.1 rfl).ls)
  go_upto_block 0 with (fail)
  go_cut [] (fun wx => KS w wx now)
  case first =>
    go_wp2_with fail
    go_loopw [5, 6, 7, 8, 25] (fun _ _ _ _ i wr => ∃ k : Nat, k ≤ sn ∧ i = .int .i64 (k : Int) ∧ KS w wr now) (fun _ _ _ _ i _ => sn - (intOf i).toNat)
    case atStart => exact ⟨0, Nat.zero_le _, rfl, A, c, l, HT2.out, HS.out.below HB2.out, HA.out, HOK.out, HB2.out⟩
    case round =>
      obtain ⟨k, hk, rfl, hKS⟩ := hrel
      have HKS := Lib.hid hKS
      obtain ⟨A3, c3, l3, hT3, hS3, hA3, hO3, hB3⟩ := hKS
      have HT3 := Lib.hid hT3
      have HS3 := Lib.hid hS3
      have HA3 := Lib.hid hA3
      have HO3 := Lib.hid hO3
      have HB3 := Lib.hid hB3
      have hsz := hB3.size
      obtain ⟨t0, t1, tf, tz⟩ := hT3
      clear hS3 hA3 hO3 hB3
      by_cases hlt : k < sn
      rotate_left
      · obtain rfl : k = sn := by omega
        go_wp2_with fail
        go_meet
        exact HKS.out
      obtain ⟨b, off, rfl, hbk, hcell⟩ := HR.out (by omega)
      have c0 : wr.cell? ⟨b, off + k * 2, none⟩ = some (.int .i64 (R k).1) := (HB3.out.cell (p := ⟨b, _, none⟩) hbk).trans (hcell k hlt 0 _ rfl)
      have c1 : wr.cell? ⟨b, off + k * 2 + 1, none⟩ = some (.int .i64 (R k).2) := (HB3.out.cell (p := ⟨b, _, none⟩) hbk).trans (hcell k hlt 1 _ rfl)
      obtain ⟨r, hr⟩ : ∃ r, R k = r := ⟨_, rfl⟩
      rw [hr] at c0 c1
      obtain ⟨id, ti⟩ := r
      dsimp only at c0 c1
      clear hcell hr
      by_cases h30 : 30 ≤ k
      · have d1 : decide ((30 : Int) ≤ (k : Int)) = true := by simp; omega
        have d2 : decide (30 ≤ k) = true := by simpa using h30
        go_wp2_with fail
        go_meet
        exact HKS.out.alloc _
      have d1 : decide ((30 : Int) ≤ (k : Int)) = false := by simp; omega
      have d2 : decide (30 ≤ k) = false := by simpa using h30
      clear h30
      go_wp2_with fail
      refine (set_any now A3 c3 l3 id ti _ (HS3.out.below ((Below.refl _ _).alloc (Nat.le_refl _) _))).mono ?_
      rintro e w3 (⟨hT, A4, c4, rfl, hO, hb⟩ | ⟨hno, x, hx, rfl, hb⟩)
      · have hz3 : wr.heap.size < w3.heap.size := by have := hb.size; simp at this; omega
        have HB4 := Lib.hid (HB3.out.trans ((((Below.refl wr.heap.size wr).alloc (Nat.le_refl _) _).trans (hb.mono (by simp))).mono hsz))
        have HT4 := Lib.hid (HT3.out.below (((Below.refl wr.heap.size wr).alloc (Nat.le_refl _) _).trans (hb.mono (by simp))))
        have HS4 := Lib.hid hO
        have HN := Lib.hid hT
        obtain ⟨t0, t1, tf, tz⟩ := HT4.out
        clear hb hO hT
        go_wp2_with fail
        go_roundw
        case rel =>
          refine ⟨k + 1, by omega, by go_num, A4, c4, setL now id ti l3, ?_, ?_, ?_, set_ok HN.out, ?_⟩
          · exact (HT4.out.put _ _).below ((Below.refl _ _).alloc (Nat.le_refl _) _)
          · exact ((Sd.grownX (Sd.of_own HS4.out) (kb_grown _ _ _ _) (fun h0 a ha => by
              have h1 := OwnD.blk HS4.out a.block (by rw [ha]; rfl)
              simp at h1
              intro e
              injection e with e
              omega))).below ((Below.refl _ _).alloc (Nat.le_refl _) _)
          · intro h0 a ha e
            have h1 := OwnD.blk HS4.out a.block (by rw [ha]; rfl)
            simp at h1
            injection e with e
            omega
          · exact (below_set (below_set HB4.out (Nat.le_refl _)) (Nat.le_refl _)).alloc (by simp; omega) _
        case measure => simp [intOf]; omega
      · have HK4 := Lib.hid ((HKS.out.alloc (.cells #[.int .i64 id, .int .i64 ti] 29)).below hb)
        obtain ⟨A4, c4, l4, hT4, hS4, hA4, hO4, hB4⟩ := HK4.out
        obtain ⟨t0, t1, tf, tz⟩ := hT4
        have x0 : (x == 0) = false := by simpa using hx
        clear hb hno hx hS4 hA4 hO4 hB4
        go_wp2_with fail
        go_roundw
        case rel => exact ⟨k + 1, by omega, by go_num, HK4.out.alloc _⟩
        case measure => simp [intOf]; omega
  case rest =>
    obtain ⟨A3, c3, l3, hT3, hS3, hA3, hO3, hB3⟩ := hcut
    have HT3 := Lib.hid hT3
    have HS3 := Lib.hid hS3
    have HA3 := Lib.hid hA3
    have HO3 := Lib.hid hO3
    have HB3 := Lib.hid hB3
    have hsz := hB3.size
    obtain ⟨t0, t1, tf, tz⟩ := hT3
    clear hS3 hA3 hO3 hB3
    have HOWN0 := Lib.hid (OwnI.nil (wc.alloc (.cells #[.int .i64 now, .int .i64 0] 34)) (wc.heap.size + 1))
    have HK0 := Lib.hid (show KB (wc.alloc (.cells #[.int .i64 now, .int .i64 0] 34)) wc.heap.size now (.int .i64 0) from ⟨by simp, by simp, fun o => by simp, by simp⟩)
    go_wp2_with fail
    go_loopw [9, 12, 51] (fun vi _ i wr => ∃ k : Nat, k ≤ l3.length ∧ i = .int .i64 (k : Int) ∧ ∃ At ct, vi = .slice At ((l3.take k).map Du.id).length ct ∧ OwnI wr (wc.heap.size + 1) vi ((l3.take k).map Du.id) ∧ KB wr wc.heap.size (lastD now l3 k).at_ (.int .i64 (lastD now l3 k).id) ∧ Below wc.heap.size wc wr) (fun _ _ i _ => l3.length - (intOf i).toNat)
    case atStart => exact ⟨0, Nat.zero_le _, rfl, none, 0, rfl, HOWN0.out, HK0.out, (Below.refl _ _).alloc (Nat.le_refl _) _⟩
    case round =>
      obtain ⟨k, hk, rfl, At, ct, rfl, hO, hK, hB⟩ := hrel
      have HO := Lib.hid hO
      have HK := Lib.hid hK
      have HB := Lib.hid hB
      have hzw := hB.size
      clear hO hB t0 t1 tf tz hK
      by_cases hlt : k < l3.length
      rotate_left
      · obtain rfl : k = l3.length := by omega
        have HT5 := Lib.hid (HT3.out.below HB.out)
        obtain ⟨t0, t1, tf, tz⟩ := HT5.out
        go_wp2_with fail
        refine (next_ok now A3 c3 l3 _ (HS3.out.below HB.out) HO3.out.tl).mono ?_
        rintro e w6 ⟨⟨a, q, rfl, hk0, hk1⟩, hb6⟩
        have HT6 := Lib.hid (HT5.out.below hb6)
        have HB6 := Lib.hid ((HB3.out.trans (HB.out.mono HB3.out.size)).trans (hb6.mono (Nat.le_trans HB3.out.size HB.out.size)))
        have HS6 := Lib.hid ((HS3.out.below HB.out).below hb6)
        have hl3 := HO3.out.len
        clear hb6 t0 t1 tf tz
        obtain ⟨t0, t1, tf, tz⟩ := HT6.out
        by_cases h0 : l3.length = 0
        · obtain rfl : q = 4 := hk0 (List.length_eq_zero_iff.1 h0)
          have e1 : ((l3.length : Int) == 0) = true := by simp [h0]
          have e2 : (l3.length == 0) = true := by simp [h0]
          have e3 : decide ((0 : Int) < (l3.length : Int)) = false := by simp [h0]
          clear h0 hk0 hk1
          go_wp2_with fail
          go_quiet (fail)
          go_wp2_with fail
          go_ret
          exact ⟨rfl, below_drewN HB6.out _⟩
        · obtain ⟨x, hx⟩ : ∃ x, l3[0]? = some x := ⟨_, List.getElem?_eq_getElem (by omega)⟩
          obtain ⟨rfl, rfl⟩ := hk1 x hx
          obtain ⟨bk, off, rfl, hbk, hcell⟩ := (HS6.out.rd) (by omega)
          have hxn : nthD l3 0 = x := by simp [nthD, hx]
          have c0 : w6.cell? ⟨bk, off, none⟩ = some (.int .i64 x.at_) := by simpa [duC, hxn] using hcell 0 (by omega) 0 _ rfl
          have hat := HO3.out.ats x (List.mem_of_getElem? hx)
          have hnow := HO3.out.now0
          obtain ⟨xa, xi⟩ := x
          dsimp only at c0 hat ⊢
          obtain ⟨ha1, ha2⟩ := hat
          clear hcell hxn hx hk0 hk1
          obtain ⟨N, hN⟩ : ∃ N, N = l3.length := ⟨_, rfl⟩
          rw [← hN] at t1 h0 ⊢
          have e1 : ((N : Int) == 0) = false := by rw [beq_eq_false_iff_ne]; omega
          have e2 : (N == 0) = false := by rw [beq_eq_false_iff_ne]; omega
          have e3 : decide ((0 : Int) < (N : Int)) = true := by simp; omega
          have e4 : decide (0 < N) = true := by simp; omega
          have i1 : (0 : Int) < (N : Int) := by omega
          clear hN
          go_wp2_with fail
          go_quiet (fail)
          go_wp2_with fail
          go_ret
          exact ⟨rfl, below_drewN HB6.out _⟩
      obtain ⟨bk, off, rfl, hbk, hcell⟩ := (HS3.out.rd) (by omega)
      have c0 : wr.cell? ⟨bk, off + k * 2, none⟩ = some (.int .i64 (nthD l3 k).at_) := (HB.out.cell (p := ⟨bk, _, none⟩) hbk).trans (hcell k hlt 0 _ rfl)
      have c1 : wr.cell? ⟨bk, off + k * 2 + 1, none⟩ = some (.int .i64 (nthD l3 k).id) := (HB.out.cell (p := ⟨bk, _, none⟩) hbk).trans (hcell k hlt 1 _ rfl)
      have HLL := Lib.hid (last_law HO3.out hlt)
      have HNI := Lib.hid (last_ids HO3.out hlt)
      have HLS := Lib.hid (show lastD now l3 (k + 1) = nthD l3 k from rfl)
      have HTK := Lib.hid (show (l3.take (k + 1)).map Du.id = (l3.take k).map Du.id ++ [(nthD l3 k).id] by rw [← List.take_append_getElem hlt, List.map_append, nthD_get hlt]; rfl)
      generalize nthD l3 k = y at *
      generalize lastD now l3 k = z at *
      generalize hids : (l3.take k).map Du.id = ids at *
      clear hcell
      obtain ⟨ya, yi⟩ := y
      obtain ⟨za, zi⟩ := z
      dsimp only at c0 c1
      obtain ⟨p0, p1, pf, pz⟩ := HK.out
      have HIL := Lib.hid (show ids.length ≤ 100 by rw [← hids]; have := HO3.out.len; simp; omega)
      obtain ⟨WD, hWD⟩ : ∃ WD, WD = wr.alloc (.cells #[.int .i64 ya, .int .i64 yi] 34) := ⟨_, rfl⟩
      have HP := Lib.hid (show Below wr.heap.size wr WD by rw [hWD]; exact (Below.refl _ _).alloc (Nat.le_refl _) _)
      have HWD := Lib.hid hWD
      have HCT := Lib.hid (show Calls Try.prog 10 #[.slice At ids.length ct, .int .i64 yi] WD fun e w' => e = .returned (.bool false) ∧ w' = WD from by
        refine (containsI_any At ids.length ct (lst ids) yi WD (by have := HIL.out; omega) ((HO.out.below HP.out).rd)).mono ?_
        rintro e w' ⟨rfl, rfl⟩
        rw [any_lst, decide_eq_false HNI.out]
        exact ⟨rfl, rfl⟩)
      clear hWD
      go_upto_region 16 with (fail)
      go_cut [84] (fun x wx => x = .bool false ∧ wx = wr.alloc (.cells #[.int .i64 ya, .int .i64 yi] 34))
      case first =>
        by_cases hyz : ya = za
        · subst hyz
          have g1 : decide (yi ≤ zi) = false := by have := HLL.out.2 rfl; simpa using this
          go_wp2_with fail
          rw [← HWD.out]
          refine HCT.out.mono ?_
          rintro e w5 ⟨rfl, rfl⟩
          go_wp2_with fail
          go_meet
          exact ⟨rfl, HWD.out⟩
        · have g0 : decide (ya < za) = false := by have := HLL.out.1; simpa using this
          have g1 : (ya == za) = false := by simpa using hyz
          clear hyz
          go_wp2_with fail
          rw [← HWD.out]
          refine HCT.out.mono ?_
          rintro e w5 ⟨rfl, rfl⟩
          go_wp2_with fail
          go_meet
          exact ⟨rfl, HWD.out⟩
      case rest =>
        obtain ⟨rfl, rfl⟩ := hcut
        have HBK := Lib.hid HO.out.blk
        have hl3 := HO3.out.len
        have HKA := Lib.hid ((HK.out.below HP.out))
        rw [HWD.out] at HKA
        go_wp2_with fail
        go_region_law ((refine step_append_int (by rfl) _ _ (by rfl) (wc.heap.size + 1) (.slice At ids.length ct) ids (by rfl) (by exact (HO.out.alloc _).alloc _) (wr.heap.size + 1 + 1) (by simp) yi (wr.heap.size + 1) (by rfl) (by simp [go_sem]) (by have := HIL.out; omega) (by simp; omega) ?_; intro g9 cap9 w12 hown12 hg12 hor12; have hg13 := grown_step (World.grownBy_alloc (wr.alloc (.cells #[.int .i64 ya, .int .i64 yi] 34)) (.cells #[.int .i64 yi] 3) _) (show ((wr.alloc (.cells #[.int .i64 ya, .int .i64 yi] 34)).alloc (.cells #[.int .i64 yi] 3)).grownBy w12 _ from ⟨hg12.os, hg12.tape, hg12.output, hg12.size, hg12.block⟩) (.inl rfl); have q0 : w12.cell? ⟨wr.heap.size, 0, none⟩ = some (.int .i64 ya) := (grown_cell hg13 (by simp) (fun e => by have := (HBK.out _ e.symm).2; omega)).trans (by simp); have q1 : w12.cell? ⟨wr.heap.size, 1, none⟩ = some (.int .i64 yi) := (grown_cell hg13 (by simp) (fun e => by have := (HBK.out _ e.symm).2; omega)).trans (by simp); have HK12 := Lib.hid (HKA.out.grown hg13 (fun e => by have := HBK.out _ e.symm; omega)); obtain ⟨s0, s1, sf, sz⟩ := HK12.out; have HO12 := Lib.hid hown12; have HG12 := Lib.hid hg13; clear hown12 hg12 hor12 hg13))
        all_goals go_wp2_with fail
        all_goals go_roundw
        all_goals first
          | (simp [intOf]; omega)
          | (refine ⟨k + 1, by omega, by go_num, some ⟨g9, 0, none⟩, cap9, by rw [HTK.out, List.length_append]; rfl, ?_, ?_, ?_⟩
             · rw [HTK.out]; exact own_set (own_set HO12.out (by omega)) (by omega)
             · rw [HLS.out]; exact HK12.out.put _ _
             · exact below_set (below_set (below_grown (HB.out.alloc HB.out.size _) (by simp; omega) HG12.out (fun g hg => by have := (HBK.out g hg).1; omega)) (Nat.le_refl _)) (Nat.le_refl _))
set_option maxRecDepth 100000 in
theorem open_sets {H : Type} {enc : TypeId × Value → H} {W : World} {base : Nat} {v : Value} {d : DataW H} {p : List MemPlace} (k0 : Value.okWide Try.prog W .any base 25 v) (h0 : DataW.Trod enc Try.prog W 0 (fun _ => true) true 25 v d p) :
    ∃ A n c R, v = .slice A n c ∧ n ≤ c ∧ c ≤ 9223372036854775807 ∧ Rd W 2 (prC R) A n := by
  obtain ⟨a0, l0, cp0, rfl⟩ := okWide_slice Try.underlying25 k0
  obtain ⟨fuel, hf⟩ := h0
  obtain ⟨A, n, c, C, hcs, hnc, hcm, hA, hR, hlen, hel⟩ := open_rows Try.underlying25 (sz := 2) (by kernel_rfl) (by omega) hf
  have hv : Value.slice a0 l0 cp0 = .slice A n c := by simpa [Value.cells] using hcs
  have hall : ∀ i, ∃ q : Int × Int, i < n → C i = prC (fun _ => q) i := fun i => by
    by_cases hi : i < n
    · obtain ⟨m, y, hy⟩ := hel i hi
      obtain ⟨xs, m2, _, _, _, hxl, hg⟩ := DataW.trod_array Try.underlying29 hy
      have h1 : Try.prog.cellsOf 3 = 1 := by kernel_rfl
      rw [h1] at hg
      match hC : C i, hlen i with
      | [u0, u1], _ =>
        rw [hC] at hg
        have key : ∀ j (u : Value), j < 2 → ([u0, u1].drop (j * 1)).take 1 = [u] → ∃ z : Int, u = .int .i64 z := fun j u hj hu => by
          have h2 := hg j hj
          rw [hu, List.getElem?_eq_getElem (by omega)] at h2
          obtain ⟨z, e, _⟩ := DataW.trod_int Try.underlying3 h2
          simp at e
          exact ⟨z, e⟩
        obtain ⟨z0, rfl⟩ := key 0 u0 (by omega) rfl
        obtain ⟨z1, rfl⟩ := key 1 u1 (by omega) rfl
        exact ⟨⟨z0, z1⟩, fun _ => rfl⟩
    · exact ⟨⟨0, 0⟩, fun h => absurd h hi⟩
  obtain ⟨Z, hZ⟩ := Classical.axiomOfChoice hall
  exact ⟨A, n, c, Z, hv, hnc, hcm, hR.congr fun k hk => hZ k hk⟩
set_option maxRecDepth 100000 in
theorem timerSorted_walk {H : Type} {enc : TypeId × Value → H} (W : World) (base : Nat) (v0 v1 : Value) {d0 d1 : DataW H} {p0 p1 : List MemPlace}
    (k0 : Value.okWide Try.prog W .any base 24 v0) (k1 : Value.okWide Try.prog W .any base 25 v1)
    (h0 : DataW.Trod enc Try.prog W 0 (fun _ => true) true 24 v0 d0 p0) (h1 : DataW.Trod enc Try.prog W 0 (fun _ => true) true 25 v1 d1 p1) :
    Calls Try.prog 3 #[v0, v1] W fun e W' => e = .returned (.bool true) ∧ Below W.heap.size W W' := by
  obtain ⟨now, A, c, l, rfl, hS⟩ := open_timers k0 h0
  obtain ⟨B, n, d, R, rfl, b1, b2, hR⟩ := open_sets k1 h1
  exact timerSorted_go now A c l B n d R W hS b1 b2 hR
end Go.Proofs.Ythnoahldolfffaa
