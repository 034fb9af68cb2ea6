/- heap.words of a valid object. -/
import Derived.Test.YtkdbnkkdohkhjaaHeapValid
import Derived.BigRegion
import Derived.IntWalk
import Derived.Laws.BitsAllLaws
namespace Go.Proofs.Ytkdbnkkdohkhjaa
open Go.RowKit
set_option linter.unusedVariables false
theorem own_newU (w : World) (x : Nat) (base : Nat) (h : base ≤ w.heap.size) : OwnU (w.alloc (.cells #[.int .u64 (x : Int)] 27)) base (.slice (some ⟨w.heap.size, 0, none⟩) 1 1) [x] :=
  ⟨by simp [encU], .inr ⟨w.heap.size, 1, #[.int .u64 (x : Int)], rfl, h, by show (w.heap.push _)[w.heap.size]? = _; simp, Nat.le_refl _, by unfold maxLen; omega, by simp, by simp [encU]⟩⟩
theorem Su.one' (w : World) (x : Nat) (n : Nat) (hn : w.heap.size = n) : Su (w.alloc (.cells #[.int .u64 (x : Int)] 27)) (.slice (some ⟨n, 0, none⟩) 1 1) [x] := by
  subst hn; exact Su.one w x
def WordsPost (l : List Nat) (w : World) (e : Ending) (w' : World) : Prop := ∃ A c, e = .returned (.slice A l.length c) ∧ OwnU w' w.heap.size (.slice A l.length c) l ∧ Below w.heap.size w w'
/-- the box of an object -/
structure OB (wx : World) (b : Nat) (at_ k n : Int) (t : ByteArray) (pA : Option Addr) (pl pc : Nat) : Prop where
  c0 : wx.cell? ⟨b, 0, none⟩ = some (.int .i64 at_)
  c1 : wx.cell? ⟨b, 1, none⟩ = some (.int .i64 k)
  c2 : wx.cell? ⟨b, 2, none⟩ = some (.int .i64 n)
  c3 : wx.cell? ⟨b, 3, none⟩ = some (.string t)
  c4 : wx.cell? ⟨b, 4, none⟩ = some (.slice pA pl pc)
  sz : b < wx.heap.size
theorem OB.grown {wx wy : World} {b : Nat} {at_ k n : Int} {t : ByteArray} {pA : Option Addr} {pl pc : Nat} {row : Option Nat} (h : OB wx b at_ k n t pA pl pc) (hg : wx.grownBy wy row) (hr : ∀ g, row = some g → b + 1 ≤ g) : OB wy b at_ k n t pA pl pc := by
  have hs := h.sz
  have k0 : ∀ o, wy.cell? ⟨b, o, none⟩ = wx.cell? ⟨b, o, none⟩ := fun o => grown_cell hg (by omega) (fun e => by have := hr b e.symm; omega)
  exact ⟨(k0 _).trans h.c0, (k0 _).trans h.c1, (k0 _).trans h.c2, (k0 _).trans h.c3, (k0 _).trans h.c4, by have := hg.size; omega⟩
theorem OB.new (w : World) (at_ k n : Int) (t : ByteArray) (pA : Option Addr) (pl pc : Nat) (ty : TypeId) : OB (w.alloc (.cells #[.int .i64 at_, .int .i64 k, .int .i64 n, .string t, .slice pA pl pc] ty)) w.heap.size at_ k n t pA pl pc := by
  constructor <;> simp
theorem grown_drew' {w w1 : World} {row : Option Nat} (h : w.grownBy w1 row) : w.grownBy w1.drew row := ⟨h.os, h.tape, h.output, h.size, h.block⟩
theorem or_byte {z b r : Nat} (hz : z < 256 ^ r) (hb : b < 256) (hr : r < 8) : bits .or .u64 (z : Int) (IntKind.u64.wrap (IntKind.u64.wrap (b : Int) * 2 ^ (8 * r))) = ((z + b * 256 ^ r : Nat) : Int) := by
  have e0 : (2 : Nat) ^ (8 * r) = 256 ^ r := by rw [Nat.pow_mul]
  have h1 : b * 256 ^ r ≤ 255 * 256 ^ r := Nat.mul_le_mul_right _ (by omega)
  have h2 : 256 ^ r ≤ 256 ^ 7 := Nat.pow_le_pow_right (by omega) (by omega)
  have h3 : (256 : Nat) ^ 7 = 72057594037927936 := by decide
  have e1 : IntKind.u64.wrap (b : Int) = b := by rw [IntKind.wrap_u64]; omega
  have e2 : ((b : Int) * 2 ^ (8 * r)) = ((b * 256 ^ r : Nat) : Int) := by rw [← e0]; push_cast; rfl
  have e3 : IntKind.u64.wrap ((b * 256 ^ r : Nat) : Int) = ((b * 256 ^ r : Nat) : Int) := by rw [IntKind.wrap_u64]; omega
  rw [e1, e2, e3, u64_or _ _ (by omega) (by omega) (by omega) (by omega)]
  rw [Int.toNat_natCast, Int.toNat_natCast, Nat.or_comm, ← e0, Nat.mul_comm b, ← Nat.two_pow_add_eq_or_of_lt (by rw [e0]; exact hz)]
  push_cast
  omega
theorem bt_eq (t : ByteArray) {q : Nat} (h : q < t.size) : t[q].toNat = bt t q := by
  unfold bt
  rw [List.getD_eq_getElem?_getD, List.getElem?_eq_getElem (by simpa using h)]
  rfl
theorem tw_last_lt {s : Nat → Nat} (hs : ∀ i, s i < 256) {q : Nat} (h : ¬ q % 8 = 0) : nth (tw s q) ((q + 7) / 8 - 1) < 256 ^ (q % 8) := by
  unfold nth
  rw [tw_get s q _ (by omega)]
  have e : min 8 (q - 8 * ((q + 7) / 8 - 1)) = q % 8 := by omega
  rw [e]
  exact valB_lt hs _ _
theorem encU_set (l : List Nat) (i x : Nat) : (encU l).set i (.int .u64 (x : Int)) = encU (l.set i x) := by
  unfold encU
  rw [List.map_set]
theorem nth_right (a b : List Nat) (i : Nat) (h : a.length ≤ i) : nth (a ++ b) i = nth b (i - a.length) := by
  unfold nth
  rw [List.getD_eq_getElem?_getD, List.getD_eq_getElem?_getD, List.getElem?_append_right h]
theorem set_right (a b : List Nat) (i x : Nat) (h : a.length ≤ i) : (a ++ b).set i x = a ++ b.set (i - a.length) x := List.set_append_right _ _ h
/-- a byte into the last word -/
theorem tw_step (a : List Nat) (s : Nat → Nat) {q L z : Nat} (h : ¬ q % 8 = 0) (hL : (a ++ tw s q).length = L) (hz : nth (a ++ tw s q) (L - 1) = z) : (a ++ tw s q).set (L - 1) (z + s q * 256 ^ (q % 8)) = a ++ tw s (q + 1) := by
  have hl := tw_len s q
  rw [List.length_append] at hL
  have hq : 0 < (tw s q).length := by omega
  rw [nth_right _ _ _ (by omega)] at hz
  have e : L - 1 - a.length = (tw s q).length - 1 := by omega
  rw [set_right _ _ _ _ (by omega), tw, if_neg h, ← hz, e]
  rfl
/-- a byte into a new word -/
theorem tw_step0 (a : List Nat) (s : Nat → Nat) {q L : Nat} (h : q % 8 = 0) (hL : ((a ++ tw s q) ++ [0]).length = L) : ((a ++ tw s q) ++ [0]).set (L - 1) (0 + s q * 256 ^ (q % 8)) = a ++ tw s (q + 1) := by
  rw [List.length_append] at hL
  simp at hL
  rw [set_right _ _ _ _ (by simp; omega), tw, if_pos h, h]
  have e : L - 1 - (a ++ tw s q).length = 0 := by simp; omega
  rw [e]
  simp
theorem OwnU.store {w : World} {base g c i x : Nat} {l : List Nat} (h : OwnU w base (.slice (some ⟨g, 0, none⟩) l.length c) l) : OwnU (w.setCell ⟨g, i, none⟩ (.int .u64 (x : Int))) base (.slice (some ⟨g, 0, none⟩) l.length c) (l.set i x) ∧ w.grownBy (w.setCell ⟨g, i, none⟩ (.int .u64 (x : Int))) (some g) := by
  have h1 := World.ownsRow.stored h i (.int .u64 (x : Int))
  rw [encU_set] at h1
  refine ⟨?_, h1.2⟩
  unfold OwnU
  rw [List.length_set]
  exact h1.1
set_option maxHeartbeats 4000000 in
set_option maxRecDepth 100000 in
theorem words_any (o : Ob) (at_ : Int) (pA : Option Addr) (pc : Nat) (w : World) (hv : okOb o = true) (hP : Su w (.slice pA o.parts.length pc) o.parts) :
    Calls Try.prog 66 #[.agg #[.int .i64 at_, .int .i64 o.kind, .int .i64 o.num, .string o.text, .slice pA o.parts.length pc]] w (WordsPost (wordsO o) w) := by
  obtain ⟨h1, h2, h3, h4, h5⟩ := okOb_iff.1 hv
  have h400 := mostP_le o.kind
  have HP := Lib.hid hP
  obtain ⟨k, n, t, p⟩ := o
  dsimp only at h1 h2 h3 h4 h5 h400 HP ⊢
  have hk1 : (0 : Int) ≤ k := by omega
  have hk2 : k ≤ 5 := by omega
  have hp1 : p.length ≤ 400 := by omega
  have HH := Lib.hid (show headW k t.size p.length < 18446744073709551616 from (headW_kind (o := ⟨k, n, t, p⟩) hv).2.2.2)
  have HW := Lib.hid (show wordsO ⟨k, n, t, p⟩ = headW k t.size p.length :: (numW ⟨k, n, t, p⟩ ++ tw (bt t) t.size ++ p) from rfl)
  have hd : IntKind.u64.wrap (k + (t.size : Int) * 256 + (p.length : Int) * 1048576) = ((headW k t.size p.length : Nat) : Int) := by
    rw [IntKind.wrap_u64]; unfold headW; omega
  clear hv hP h2 h4 h5 h1
  go_enter Try.func66, Try.ntmps66
  go_wp2_with fail
  refine (hasNum_any _ _).mono ?_
  rintro e w' ⟨rfl, rfl⟩
  obtain ⟨W1, hW1⟩ : ∃ W1, W1 = (w.alloc (.cells #[.int .i64 at_, .int .i64 k, .int .i64 n, .string t, .slice pA p.length pc] 33)).alloc (.cells #[.int .u64 ((headW k t.size p.length : Nat) : Int)] 27) := ⟨_, rfl⟩
  rw [← hW1]
  have hs1 : W1.heap.size = w.heap.size + 2 := by rw [hW1]; simp
  have hO1 : OwnU W1 (w.heap.size + 1) (.slice (some ⟨w.heap.size + 1, 0, none⟩) 1 1) [headW k t.size p.length] := by
    rw [hW1]
    have := own_newU (w.alloc (.cells #[.int .i64 at_, .int .i64 k, .int .i64 n, .string t, .slice pA p.length pc] 33)) (headW k t.size p.length) (w.heap.size + 1) (by simp)
    simpa using this
  have hB1 : Below w.heap.size w W1 := by rw [hW1]; exact ((Below.refl _ _).alloc (Nat.le_refl _) _).alloc (by simp) _
  have hC1 : OB W1 w.heap.size at_ k n t pA p.length pc := by rw [hW1]; exact (OB.new w at_ k n t pA p.length pc 33).grown (World.grownBy_alloc _ _ none) (fun g hg => by cases hg)
  clear hW1 hd
  have HS1 := Lib.hid hs1
  have HO1 := Lib.hid hO1
  have HB1 := Lib.hid hB1
  have HC1 := Lib.hid hC1
  obtain ⟨c0, c1, c2, c3, c4, csz⟩ := hC1
  clear hs1 hO1 hB1
  have hnw : IntKind.u64.wrap n = ((uN n : Nat) : Int) := by rw [uN_eq, IntKind.wrap_u64]
  cases hh : hasN k with
  | false =>
    have HN := Lib.hid (show numW ⟨k, n, t, p⟩ = [] by unfold numW; simp [hh])
    clear hh hnw
    go_wp2_with fail
    clear c0 c1 c2 c3 c4 csz
    go_loopw [3, 4, 33] (fun o _ x wr => ∃ (q : Nat) (v : Value), q ≤ t.size ∧ x = .int .i64 q ∧ v = o ∧ OwnU wr (w.heap.size + 1) v ([headW k t.size p.length] ++ tw (bt t) q) ∧ OB wr w.heap.size at_ k n t pA p.length pc ∧ Below w.heap.size w wr) (fun _ _ x _ => t.size - (intOf x).toNat)
    case atStart => exact ⟨0, _, Nat.zero_le _, rfl, rfl, by simpa [tw] using HO1.out, HC1.out, HB1.out⟩
    case round =>
      obtain ⟨q, v, hq, rfl, rfl, hO, hC, hB⟩ := hrel
      obtain ⟨l, hl⟩ : ∃ l, [headW k t.size p.length] ++ tw (bt t) q = l := ⟨_, rfl⟩
      have hll : l.length = 1 + (q + 7) / 8 := by rw [← hl, List.length_append, tw_len]; simp
      rw [hl] at hO
      have HLS := Lib.hid hl
      have HO := Lib.hid hO
      have HC := Lib.hid hC
      have HB := Lib.hid hB
      have HLL := Lib.hid hll
      have hBs := hB.size
      obtain ⟨Ao, co, rfl, n1, n2, _⟩ := own_any hO
      obtain ⟨c0, c1, c2, c3, c4, csz⟩ := hC
      have hlb : l.length ≤ 100 := by omega
      have hlp : 0 < l.length := by omega
      clear hl hll
      by_cases hlt : q < t.size
      · have m0 : (0 : Int) ≤ (q : Int) := by omega
        have m1 : (q : Int) < (t.size : Int) := by omega
        have hbq := bt_eq t hlt
        by_cases h8 : q % 8 = 0
        · have e8 : ((q : Int) % 8 == 0) = true := by simp; omega
          have hor : bits .or .u64 (0 : Int) (IntKind.u64.wrap (IntKind.u64.wrap (bt t q : Int) * 2 ^ (8 * (q % 8)))) = ((0 + bt t q * 256 ^ (q % 8) : Nat) : Int) := or_byte (z := 0) (b := bt t q) (r := q % 8) (Nat.pow_pos (by omega)) (bt_lt t q) (by omega)
          rw [← hbq] at hor
          have HOR := Lib.hid hor
          have HBQ := Lib.hid hbq
          have H8 := Lib.hid h8
          clear hO hB hor hbq h8
          go_wp2_with (at_builtin; go_loud (refine wpList_append_us rfl _ _ 22 22 rfl Try.underlying22 Try.underlying22 (w.heap.size + 1) (.slice Ao l.length co) l rfl (HO.out.alloc _) (.slice (some ⟨wr.heap.size, 0, none⟩) 1 1) [0] rfl (by exact Su.one' wr 0 wr.heap.size rfl) (by simp only [List.length_cons, List.length_nil]; omega) (by simp; omega) ?_; intro v4 w4 hown4 hgrow4 hat4; obtain ⟨g, c4', rfl, q1, q2, q3, q4⟩ := own_form hown4 (by simp); have HO4 := Lib.hid hown4; have HG4 := Lib.hid hgrow4; clear hown4 hgrow4 hat4))
          have HC4 := Lib.hid ((HC.out.grown (World.grownBy_alloc wr (.cells #[.int .u64 0] 27) none) (fun g hg => by cases hg)).grown HG4.out (fun g' hg' => (HO.out.blk g' hg').1))
          have HB4 := Lib.hid (below_grown (HB.out.alloc hBs _) (by simp; omega) HG4.out (fun g' hg' => by have := (HO.out.blk g' hg').1; omega))
          clear c0 c1 c2 c3 c4 csz
          obtain ⟨c0, c1, c2, c3, c4, csz⟩ := HC4.out
          have hLL : (l ++ [0]).length = l.length + 1 := by simp
          have hcell := HO4.out.cellAt l.length (by omega)
          rw [encU_get (by omega)] at hcell
          have hz : nth (l ++ [0]) l.length = 0 := by rw [nth_right _ _ _ (Nat.le_refl _)]; simp [nth]
          rw [hz] at hcell
          have hfz : ∀ o, w4.frozen? ⟨g, o, none⟩ = false := fun o => HO4.out.frozenAt o
          have l1 : (0 : Int) ≤ (l.length : Int) := by omega
          have l2 : (l.length : Int) < (l.length : Int) + 1 := by omega
          have l4 : ((l.length : Int) + 1 - 1).toNat = l.length := by omega
          have l6 : (l.length : Int) + 1 - 1 = (l.length : Int) := by omega
          obtain ⟨y, hy⟩ : ∃ y, 0 + t[q].toNat * 256 ^ (q % 8) = y := ⟨_, rfl⟩
          have hor := HOR.out
          rw [hy] at hor
          have hst := OwnU.store (i := l.length) (x := y) HO4.out
          have hts := tw_step0 [headW k t.size p.length] (bt t) (L := l.length + 1) H8.out (by rw [HLS.out]; simp)
          rw [HLS.out, Nat.add_sub_cancel] at hts
          rw [← hy, HBQ.out, hts, ← HBQ.out, hy] at hst
          have HST := Lib.hid hst
          clear hy hst hLL hz hts
          go_region
          clear hor c0 c1 c2 c3 c4 csz hcell hfz
          go_wp2_with fail
          refine ⟨⟨q + 1, _, by omega, by go_num, rfl, ?_, ?_, ?_⟩, by simp [intOf]; omega⟩
          · have h := HST.out.1
            simp only [List.length_append, List.length_cons, List.length_nil, Nat.zero_add] at h
            exact h
          · exact HC4.out.grown (grown_drew' HST.out.2) (fun g' hg' => by injection hg' with hg'; omega)
          · exact below_grown HB4.out HB4.out.size (grown_drew' HST.out.2) (fun g' hg' => by injection hg' with hg'; omega)
        · have e8 : ((q : Int) % 8 == 0) = false := by simp; omega
          obtain ⟨g, cap, hv, hbase, hglt, hnc, hcm⟩ := own_form hO hlp
          injection hv with e1 _ e3
          subst e1 e3
          have hcell := hO.cellAt (l.length - 1) (by omega)
          rw [encU_get (by omega)] at hcell
          obtain ⟨z, hz⟩ : ∃ z, nth l (l.length - 1) = z := ⟨_, rfl⟩
          rw [hz] at hcell
          have hfz : ∀ o, wr.frozen? ⟨g, o, none⟩ = false := fun o => hO.frozenAt o
          have l1 : (1 : Int) ≤ (l.length : Int) := by omega
          have l2 : (0 : Int) ≤ (l.length : Int) - 1 := by omega
          have l3 : (l.length : Int) - 1 < (l.length : Int) := by omega
          have l4 : ((l.length : Int) - 1).toNat = l.length - 1 := by omega
          have hor := or_byte (z := z) (b := bt t q) (r := q % 8) (by
            have hll := HLL.out
            rw [← hz, ← HLS.out, nth_right _ _ _ (by simp [tw_len]; omega)]
            have h := tw_last_lt (bt_lt t) h8
            rw [show ([headW k t.size p.length] ++ tw (bt t) q).length - 1 - ([headW k t.size p.length]).length = (q + 7) / 8 - 1 by simp only [List.length_append, tw_len, List.length_cons, List.length_nil]; omega]
            exact h) (bt_lt t q) (by omega)
          rw [← hbq] at hor
          obtain ⟨y, hy⟩ : ∃ y, z + t[q].toNat * 256 ^ (q % 8) = y := ⟨_, rfl⟩
          rw [hy] at hor
          have hst := OwnU.store (i := l.length - 1) (x := y) HO.out
          have hts := tw_step [headW k t.size p.length] (bt t) (L := l.length) (z := z) h8 (by rw [HLS.out]) (by rw [HLS.out]; exact hz)
          rw [HLS.out] at hts
          rw [← hy, hbq, hts, ← hbq, hy] at hst
          have HST := Lib.hid hst
          clear hbq hy hst hts hz hO hB
          go_wp2_with fail
          go_region
          clear hor c0 c1 c2 c3 c4 csz hcell hfz
          go_wp2_with fail
          refine ⟨⟨q + 1, _, by omega, by go_num, rfl, ?_, ?_, ?_⟩, by simp [intOf]; omega⟩
          · have h := HST.out.1
            exact h
          · exact HC.out.grown (grown_drew' HST.out.2) (fun g' hg' => by injection hg' with hg'; omega)
          · exact below_grown HB.out hBs (grown_drew' HST.out.2) (fun g' hg' => by injection hg' with hg'; omega)
      · obtain rfl : q = t.size := by omega
        have HPr := Lib.hid (HP.out.below HB.out)
        clear hO hB
        go_wp2_with (at_builtin; go_loud (refine wpList_append_us rfl _ _ 22 22 rfl Try.underlying22 Try.underlying22 (w.heap.size + 1) (.slice Ao l.length co) l rfl HO.out (.slice pA p.length pc) p rfl HPr.out (by omega) (by omega) ?_; intro v4 w4 hown4 hgrow4 hat4; obtain ⟨A4, d4, rfl, q1, q2, _⟩ := own_any hown4; have HO4 := Lib.hid hown4; have HG4 := Lib.hid hgrow4; clear hown4 hgrow4 hat4))
        go_ret
        have hfin : wordsO ⟨k, n, t, p⟩ = l ++ p := by
          rw [HW.out, HN.out, ← HLS.out]
          simp
        refine ⟨A4, d4, ?_, ?_, ?_⟩
        · rw [hfin]
          simp only [List.length_append]
          rfl
        · rw [hfin]
          exact OwnU.mono HO4.out (by omega)
        · exact below_grown HB.out hBs HG4.out (fun g hg => by have := (HO.out.blk g hg).1; omega)
  | true =>
    have HN := Lib.hid (show numW ⟨k, n, t, p⟩ = [uN n] by unfold numW; simp [hh])
    clear hh
    go_wp2_with (at_builtin; go_loud (refine wpList_append_us rfl _ _ 22 22 rfl Try.underlying22 Try.underlying22 (w.heap.size + 1) (.slice (some ⟨w.heap.size + 1, 0, none⟩) 1 1) [headW k t.size p.length] rfl (HO1.out.alloc _) (.slice (some ⟨W1.heap.size, 0, none⟩) 1 1) [uN n] rfl (by exact Su.one' W1 (uN n) W1.heap.size rfl) (by simp) (by simp; have := HS1.out; omega) ?_; intro v4 w4 hown4 hgrow4 hat4; obtain ⟨A4, d4, rfl, q1, q2, _⟩ := own_any hown4; have hc4 := (HC1.out.grown (World.grownBy_alloc W1 (.cells #[.int .u64 ((uN n : Nat) : Int)] 27) none) (fun g hg => by cases hg)).grown hgrow4 (fun g hg => (HO1.out.blk g hg).1); have HC4 := Lib.hid hc4; clear c0 c1 c2 c3 c4 csz; obtain ⟨c0, c1, c2, c3, c4, csz⟩ := hc4; have HO4 := Lib.hid hown4; have HG4 := Lib.hid hgrow4; clear hown4 hgrow4 hat4))
    have HB4 := Lib.hid (below_grown (HB1.out.alloc (by have := HS1.out; omega) _) (by simp; have := HS1.out; omega) HG4.out (fun g hg => by have := (HO1.out.blk g hg).1; omega))
    clear c0 c1 c2 c3 c4 csz
    go_loopw [3, 4, 33] (fun o _ x wr => ∃ (q : Nat) (v : Value), q ≤ t.size ∧ x = .int .i64 q ∧ v = o ∧ OwnU wr (w.heap.size + 1) v ([headW k t.size p.length, uN n] ++ tw (bt t) q) ∧ OB wr w.heap.size at_ k n t pA p.length pc ∧ Below w.heap.size w wr) (fun _ _ x _ => t.size - (intOf x).toNat)
    case atStart => exact ⟨0, _, Nat.zero_le _, rfl, rfl, by simpa [tw] using HO4.out, HC4.out, HB4.out⟩
    case round =>
      obtain ⟨q, v, hq, rfl, rfl, hO, hC, hB⟩ := hrel
      obtain ⟨l, hl⟩ : ∃ l, [headW k t.size p.length, uN n] ++ tw (bt t) q = l := ⟨_, rfl⟩
      have hll : l.length = 2 + (q + 7) / 8 := by rw [← hl, List.length_append, tw_len]; simp
      rw [hl] at hO
      have HLS := Lib.hid hl
      have HO := Lib.hid hO
      have HC := Lib.hid hC
      have HB := Lib.hid hB
      have HLL := Lib.hid hll
      have hBs := hB.size
      obtain ⟨Ao, co, rfl, n1, n2, _⟩ := own_any hO
      obtain ⟨c0, c1, c2, c3, c4, csz⟩ := hC
      have hlb : l.length ≤ 100 := by omega
      have hlp : 0 < l.length := by omega
      clear hl hll
      by_cases hlt : q < t.size
      · have m0 : (0 : Int) ≤ (q : Int) := by omega
        have m1 : (q : Int) < (t.size : Int) := by omega
        have hbq := bt_eq t hlt
        by_cases h8 : q % 8 = 0
        · have e8 : ((q : Int) % 8 == 0) = true := by simp; omega
          have hor : bits .or .u64 (0 : Int) (IntKind.u64.wrap (IntKind.u64.wrap (bt t q : Int) * 2 ^ (8 * (q % 8)))) = ((0 + bt t q * 256 ^ (q % 8) : Nat) : Int) := or_byte (z := 0) (b := bt t q) (r := q % 8) (Nat.pow_pos (by omega)) (bt_lt t q) (by omega)
          rw [← hbq] at hor
          have HOR := Lib.hid hor
          have HBQ := Lib.hid hbq
          have H8 := Lib.hid h8
          clear hO hB hor hbq h8
          go_wp2_with (at_builtin; go_loud (refine wpList_append_us rfl _ _ 22 22 rfl Try.underlying22 Try.underlying22 (w.heap.size + 1) (.slice Ao l.length co) l rfl (HO.out.alloc _) (.slice (some ⟨wr.heap.size, 0, none⟩) 1 1) [0] rfl (by exact Su.one' wr 0 wr.heap.size rfl) (by simp only [List.length_cons, List.length_nil]; omega) (by simp; omega) ?_; intro v4 w4 hown4 hgrow4 hat4; obtain ⟨g, c4', rfl, q1, q2, q3, q4⟩ := own_form hown4 (by simp); have HO4 := Lib.hid hown4; have HG4 := Lib.hid hgrow4; clear hown4 hgrow4 hat4))
          have HC4 := Lib.hid ((HC.out.grown (World.grownBy_alloc wr (.cells #[.int .u64 0] 27) none) (fun g hg => by cases hg)).grown HG4.out (fun g' hg' => (HO.out.blk g' hg').1))
          have HB4 := Lib.hid (below_grown (HB.out.alloc hBs _) (by simp; omega) HG4.out (fun g' hg' => by have := (HO.out.blk g' hg').1; omega))
          clear c0 c1 c2 c3 c4 csz
          obtain ⟨c0, c1, c2, c3, c4, csz⟩ := HC4.out
          have hLL : (l ++ [0]).length = l.length + 1 := by simp
          have hcell := HO4.out.cellAt l.length (by omega)
          rw [encU_get (by omega)] at hcell
          have hz : nth (l ++ [0]) l.length = 0 := by rw [nth_right _ _ _ (Nat.le_refl _)]; simp [nth]
          rw [hz] at hcell
          have hfz : ∀ o, w4.frozen? ⟨g, o, none⟩ = false := fun o => HO4.out.frozenAt o
          have l1 : (0 : Int) ≤ (l.length : Int) := by omega
          have l2 : (l.length : Int) < (l.length : Int) + 1 := by omega
          have l4 : ((l.length : Int) + 1 - 1).toNat = l.length := by omega
          have l6 : (l.length : Int) + 1 - 1 = (l.length : Int) := by omega
          obtain ⟨y, hy⟩ : ∃ y, 0 + t[q].toNat * 256 ^ (q % 8) = y := ⟨_, rfl⟩
          have hor := HOR.out
          rw [hy] at hor
          have hst := OwnU.store (i := l.length) (x := y) HO4.out
          have hts := tw_step0 [headW k t.size p.length, uN n] (bt t) (L := l.length + 1) H8.out (by rw [HLS.out]; simp)
          rw [HLS.out, Nat.add_sub_cancel] at hts
          rw [← hy, HBQ.out, hts, ← HBQ.out, hy] at hst
          have HST := Lib.hid hst
          clear hy hst hLL hz hts
          go_region
          clear hor c0 c1 c2 c3 c4 csz hcell hfz
          go_wp2_with fail
          refine ⟨⟨q + 1, _, by omega, by go_num, rfl, ?_, ?_, ?_⟩, by simp [intOf]; omega⟩
          · have h := HST.out.1
            simp only [List.length_append, List.length_cons, List.length_nil, Nat.zero_add] at h
            exact h
          · exact HC4.out.grown (grown_drew' HST.out.2) (fun g' hg' => by injection hg' with hg'; omega)
          · exact below_grown HB4.out HB4.out.size (grown_drew' HST.out.2) (fun g' hg' => by injection hg' with hg'; omega)
        · have e8 : ((q : Int) % 8 == 0) = false := by simp; omega
          obtain ⟨g, cap, hv, hbase, hglt, hnc, hcm⟩ := own_form hO hlp
          injection hv with e1 _ e3
          subst e1 e3
          have hcell := hO.cellAt (l.length - 1) (by omega)
          rw [encU_get (by omega)] at hcell
          obtain ⟨z, hz⟩ : ∃ z, nth l (l.length - 1) = z := ⟨_, rfl⟩
          rw [hz] at hcell
          have hfz : ∀ o, wr.frozen? ⟨g, o, none⟩ = false := fun o => hO.frozenAt o
          have l1 : (1 : Int) ≤ (l.length : Int) := by omega
          have l2 : (0 : Int) ≤ (l.length : Int) - 1 := by omega
          have l3 : (l.length : Int) - 1 < (l.length : Int) := by omega
          have l4 : ((l.length : Int) - 1).toNat = l.length - 1 := by omega
          have hor := or_byte (z := z) (b := bt t q) (r := q % 8) (by
            have hll := HLL.out
            rw [← hz, ← HLS.out, nth_right _ _ _ (by simp [tw_len]; omega)]
            have h := tw_last_lt (bt_lt t) h8
            rw [show ([headW k t.size p.length, uN n] ++ tw (bt t) q).length - 1 - ([headW k t.size p.length, uN n]).length = (q + 7) / 8 - 1 by simp only [List.length_append, tw_len, List.length_cons, List.length_nil]; omega]
            exact h) (bt_lt t q) (by omega)
          rw [← hbq] at hor
          obtain ⟨y, hy⟩ : ∃ y, z + t[q].toNat * 256 ^ (q % 8) = y := ⟨_, rfl⟩
          rw [hy] at hor
          have hst := OwnU.store (i := l.length - 1) (x := y) HO.out
          have hts := tw_step [headW k t.size p.length, uN n] (bt t) (L := l.length) (z := z) h8 (by rw [HLS.out]) (by rw [HLS.out]; exact hz)
          rw [HLS.out] at hts
          rw [← hy, hbq, hts, ← hbq, hy] at hst
          have HST := Lib.hid hst
          clear hbq hy hst hts hz hO hB
          go_wp2_with fail
          go_region
          clear hor c0 c1 c2 c3 c4 csz hcell hfz
          go_wp2_with fail
          refine ⟨⟨q + 1, _, by omega, by go_num, rfl, ?_, ?_, ?_⟩, by simp [intOf]; omega⟩
          · have h := HST.out.1
            exact h
          · exact HC.out.grown (grown_drew' HST.out.2) (fun g' hg' => by injection hg' with hg'; omega)
          · exact below_grown HB.out hBs (grown_drew' HST.out.2) (fun g' hg' => by injection hg' with hg'; omega)
      · obtain rfl : q = t.size := by omega
        have HPr := Lib.hid (HP.out.below HB.out)
        clear hO hB
        go_wp2_with (at_builtin; go_loud (refine wpList_append_us rfl _ _ 22 22 rfl Try.underlying22 Try.underlying22 (w.heap.size + 1) (.slice Ao l.length co) l rfl HO.out (.slice pA p.length pc) p rfl HPr.out (by omega) (by omega) ?_; intro v4 w4 hown4 hgrow4 hat4; obtain ⟨A4, d4, rfl, q1, q2, _⟩ := own_any hown4; have HO4 := Lib.hid hown4; have HG4 := Lib.hid hgrow4; clear hown4 hgrow4 hat4))
        go_ret
        have hfin : wordsO ⟨k, n, t, p⟩ = l ++ p := by
          rw [HW.out, HN.out, ← HLS.out]
          simp
        refine ⟨A4, d4, ?_, ?_, ?_⟩
        · rw [hfin]
          simp only [List.length_append]
          rfl
        · rw [hfin]
          exact OwnU.mono HO4.out (by omega)
        · exact below_grown HB.out hBs HG4.out (fun g hg => by have := (HO.out.blk g hg).1; omega)
end Go.Proofs.Ytkdbnkkdohkhjaa
