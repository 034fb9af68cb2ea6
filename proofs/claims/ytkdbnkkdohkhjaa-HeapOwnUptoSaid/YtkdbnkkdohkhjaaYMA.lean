/- young.indexed, young.target, (young.index).word. (young.index).word, young.checked. young.started, young.Check. A row of the call's own of which the slice sees a part, from some place on: what is cut off in front, and appended behind. A queue of pairs of words: cut in front, appended behind, also in a region that draws its order. Slices of words: h[a:b] and h[a:] of []uint64. A queue of words: cut in front or at the end, a row of words appended behind. (young.index).reach. young.moved. young.copied. young.aim. Collecting: the plain facts on the list of objects. young.collect. slices.Clone of []uint64. young.Major. young.copyOf. Minor: the plain facts on the parts of late cells. Set: the plain facts. young.Set. -/
import Derived.Test.YtkdbnkkdohkhjaaYoungP
import Derived.Test.YtkdbnkkdohkhjaaMapO
import Derived.Test.YtkdbnkkdohkhjaaHeapObjs
import Derived.Test.YtkdbnkkdohkhjaaTermOf
import Derived.Test.YtkdbnkkdohkhjaaMapS
import Derived.Test.YtkdbnkkdohkhjaaInts
import Derived.Test.YtkdbnkkdohkhjaaRow
import Derived.ArgAppend
import Derived.Test.YtkdbnkkdohkhjaaU64
import Derived.Deep.RegionLawGrows
import Derived.Test.YtkdbnkkdohkhjaaHeapCut
import Derived.Deep.Upon
import Derived.Test.YtkdbnkkdohkhjaaMapN
import Derived.Test.YtkdbnkkdohkhjaaHeapPut
import Derived.Deep.RegionHeld3
import Derived.Test.YtkdbnkkdohkhjaaHeapAt
import Derived.Test.YtkdbnkkdohkhjaaHeapObsPlain
import Derived.Test.YtkdbnkkdohkhjaaSorted
namespace Go.Proofs.Ytkdbnkkdohkhjaa
open Go.RowKit
set_option linter.unusedVariables false
/-- block mb holds the index of the objects of l -/
structure IdxW (w : World) (base mb : Nat) (l : List Ob) (C : Nat → List Value) : Prop where
  m : OwnMO w mb l.length (idxG l C l.length)
  each : ∀ i (o : Ob), l[i]? = some o → ∃ pA pc, C i = obC (posO l i) o pA pc ∧ OwnU w base (.slice pA o.parts.length pc) o.parts
  len : ∀ i, (C i).length = 5
theorem IdxW.grown {w w' : World} {base mb : Nat} {l : List Ob} {C : Nat → List Value} {row : Option Nat} (h : IdxW w base mb l C) (hg : w.grownBy w' row) (hm : some mb ≠ row) (hb : ∀ k, row = some k → k < base ∨ w.heap.size ≤ k) : IdxW w' base mb l C :=
  ⟨h.m.kept hg hm, fun i o ho => by
    obtain ⟨pA, pc, h1, h2⟩ := h.each i o ho
    exact ⟨pA, pc, h1, h2.grown hg (fun k hk e => by have h3 := h2.blk k hk; rcases hb k e with h4 | h4 <;> omega)⟩, h.len⟩
theorem IdxW.below {w w' : World} {base mb : Nat} {l : List Ob} {C : Nat → List Value} (h : IdxW w base mb l C) (hb : Below w.heap.size w w') : IdxW w' base mb l C := h.grown (grown_below (g := none) hb) (by simp) (by simp)
theorem IdxW.look {w : World} {base mb : Nat} {l : List Ob} {C : Nat → List Value} (h : IdxW w base mb l C) {x : Int} (hx : Wf x) :
    (∃ k o pA pc, l[k]? = some o ∧ x = ((posO l k : Nat) : Int) ∧ OwnU w base (.slice pA o.parts.length pc) o.parts ∧ (Instr.lookup 78 (.map (some mb)) (.int .i64 x) false).run Try.prog w = .ok (.agg #[.int .i64 x, .int .i64 o.kind, .int .i64 o.num, .string o.text, .slice pA o.parts.length pc]) w ∧
      (Instr.lookup 78 (.map (some mb)) (.int .i64 x) true).run Try.prog w = .ok (.tuple #[.agg #[.int .i64 x, .int .i64 o.kind, .int .i64 o.num, .string o.text, .slice pA o.parts.length pc], .bool true]) w) ∨
    ((¬ ∃ a : Nat, x = a ∧ begO l a) ∧ (Instr.lookup 78 (.map (some mb)) (.int .i64 x) false).run Try.prog w = .ok (.agg #[.int .i64 0, .int .i64 0, .int .i64 0, .string ⟨#[]⟩, .slice none 0 0]) w ∧ (Instr.lookup 78 (.map (some mb)) (.int .i64 x) true).run Try.prog w = .ok (.tuple #[.agg #[.int .i64 0, .int .i64 0, .int .i64 0, .string ⟨#[]⟩, .slice none 0 0], .bool false]) w) := by
  have h1 := h.m.look hx
  have h2 := h.m.look_ok hx
  by_cases h0 : x < 0
  · rw [idxG_neg h0] at h1 h2
    exact .inr ⟨fun ⟨a, ha, _⟩ => by omega, h1, h2⟩
  · obtain ⟨a, rfl⟩ : ∃ a : Nat, x = a := ⟨x.toNat, by omega⟩
    rcases idxG_beg (l := l) (C := C) (a := a) with ⟨k, o, hk, hp, he⟩ | ⟨hno, he⟩
    · obtain ⟨pA, pc, hC, hU⟩ := h.each k o hk
      rw [he, hC] at h1 h2
      refine .inl ⟨k, o, pA, pc, hk, by rw [hp], hU, ?_, ?_⟩
      · rw [h1, hp]; rfl
      · rw [h2, hp]; rfl
    · rw [he] at h1 h2
      exact .inr ⟨fun ⟨b, hb, hb2⟩ => hno (by rw [show a = b by omega]; exact hb2), h1, h2⟩
def IdxYes (h : List Nat) (w : World) (e : Ending) (w' : World) : Prop := ∃ l v mb C, h.length ≤ 4000 ∧ ObsOf h l ∧ e = .returned (.tuple #[v, .map (some mb), .int .i64 0]) ∧ ObRow w' w.heap.size v l C ∧ IdxW w' w.heap.size mb l C ∧ w.heap.size ≤ mb ∧ (∀ k, v.ownBlock = some k → k < mb) ∧ Below w.heap.size w w'
def IdxNo (h : List Nat) (w : World) (e : Ending) (w' : World) : Prop := (¬ (h.length ≤ 4000 ∧ ∃ l, ObsOf h l)) ∧ ∃ mb, ∃ x : Int, x ≠ 0 ∧ e = .returned (.tuple #[.slice none 0 0, .map (some mb), .int .i64 x]) ∧ Below w.heap.size w w'
set_option maxHeartbeats 4000000 in
set_option maxRecDepth 100000 in
theorem indexed_any (h : List Nat) (hA : Option Addr) (hc : Nat) (w : World) (hH : Su w (.slice hA h.length hc) h) (h64 : All64 h) (hlen : h.length ≤ 17592186044416) :
    Calls Try.prog 67 #[.slice hA h.length hc] w fun e w' => IdxYes h w e w' ∨ IdxNo h w e w' := by
  have HH := Lib.hid hH
  have H64 := Lib.hid h64
  clear hH h64
  have hmm := @run_makeMap Try.prog
  go_enter Try.func67, Try.ntmps67
  go_wp2_with fail
  refine (Objects_any h hA hc _ HH.out H64.out hlen).mono ?_
  rintro e w1 (⟨hf4, l, hO, v, C, rfl, hrow, hb⟩ | ⟨hno, x, hx, rfl, hb⟩)
  · have HB1 := Lib.hid hb
    have HROW := Lib.hid hrow
    have HO := Lib.hid hO
    obtain ⟨A1, c1, rfl, _, _, _⟩ := own_any hrow.row
    have hl4 : l.length ≤ 4000 := by
      have h1 := len_flatO l
      rw [← hO.1] at h1
      omega
    clear hO hrow hb
    obtain ⟨mb, hmb⟩ : ∃ mb, w1.heap.size = mb := ⟨_, rfl⟩
    have HMB := Lib.hid hmb
    clear hmb
    go_wp2_with fail
    rw [HMB.out]
    go_loopw [9, 18] (fun _ x18 wr => ∃ k : Nat, k ≤ l.length ∧ x18 = .int .i64 (k : Int) ∧ OwnMO wr mb k (idxG l C k) ∧ Below w1.heap.size w1 wr) (fun _ x18 _ => l.length - (intOf x18).toNat)
    case atStart =>
      refine ⟨0, Nat.zero_le _, rfl, ?_, (Below.refl _ _).alloc (Nat.le_refl _) _⟩
      have := OwnMO.made w1
      rw [HMB.out] at this
      exact this
    case round =>
      obtain ⟨k, hk, rfl, hM, hB⟩ := hrel
      have HM := Lib.hid hM
      have HB := Lib.hid hB
      clear hM hB
      by_cases hlt : k < l.length
      · have HRW := Lib.hid (HROW.out.below HB.out)
        obtain ⟨o, ho⟩ : ∃ o, l[k]? = some o := ⟨_, List.getElem?_eq_getElem hlt⟩
        obtain ⟨pA, pc, hC, hP, _⟩ := HRW.out.each k o ho
        obtain ⟨bk, cap, hv, hbk, hlt2, _⟩ := own_form HRW.out.row (by omega)
        injection hv with hv1 _ hv3
        subst hv1 hv3
        have hcell := fun j (hj : j < 5) => own_cellC HRW.out.row HRW.out.len hlt (j := j) hj
        have hC2 : C k = obC (posO l k) o pA pc := hC
        rw [hC2] at hcell
        obtain ⟨G, hG⟩ : ∃ G, posO l k = G := ⟨_, rfl⟩
        rw [hG] at hcell hC2
        have HG := Lib.hid hG
        have HC2 := Lib.hid hC2
        have c0 : wr.cell? ⟨bk, k * 5, none⟩ = some (.int .i64 ((G : Nat) : Int)) := hcell 0 (by omega)
        have c1 : wr.cell? ⟨bk, k * 5 + 1, none⟩ = some (.int .i64 o.kind) := hcell 1 (by omega)
        have c2 : wr.cell? ⟨bk, k * 5 + 2, none⟩ = some (.int .i64 o.num) := hcell 2 (by omega)
        have c3 : wr.cell? ⟨bk, k * 5 + 3, none⟩ = some (.string o.text) := hcell 3 (by omega)
        have c4 : wr.cell? ⟨bk, k * 5 + 4, none⟩ = some (.slice pA o.parts.length pc) := hcell 4 (by omega)
        have hGl : G ≤ 4000 := by
          have h1 := posO_le l k
          rw [← HO.out.1, HG.out] at h1
          omega
        have HWF := Lib.hid (show Wf ((G : Nat) : Int) from Wf.of (by omega) (by omega))
        have HKL := Lib.hid (show k < maxLen from by unfold maxLen; omega)
        have HMA := Lib.hid (fun o => HM.out.below (show Below wr.heap.size wr (wr.alloc o) from (Below.refl _ _).alloc (Nat.le_refl _) o))
        clear hC hC2 hP hcell ho hG hGl
        go_wp2_with (at_mapUpdate; (refine wpList_store_O rfl _ _ _ rfl mb k (idxG l C k) rfl (HMA.out _) HKL.out ((G : Nat) : Int) _ rfl rfl HWF.out ?_; intro w5 hM5 hg5; have HM5 := Lib.hid hM5; have HG5 := Lib.hid hg5; clear hM5 hg5))
        refine ⟨⟨k + 1, by omega, by go_num, ?_, ?_⟩, by simp [intOf]; omega⟩
        · have e : idxG l C (k + 1) = fun y => if y = ((G : Nat) : Int) then some (.agg (C k).toArray) else idxG l C k y := by
            funext y
            rw [idxG, HG.out]
          rw [e, HC2.out]
          exact HM5.out
        · exact below_grown (HB.out.alloc HB.out.size _) (by have := HB.out.size; simp; omega) HG5.out (fun g hg => by injection hg with hg; have := HMB.out; omega)
      · obtain rfl : k = l.length := by omega
        go_wp2_with fail
        go_ret3
        have HRW := HROW.out.below HB.out
        exact .inl ⟨l, _, mb, C, hf4, HO.out, rfl, HRW, ⟨HM.out, fun i o ho => by obtain ⟨pA, pc, h1, h2, _⟩ := HRW.each i o ho; exact ⟨pA, pc, h1, h2⟩, HRW.len⟩, by have h1 := HMB.out; have h2 := HB1.out.size; omega, fun k hk => by have h1 := HMB.out; have h2 := (World.ownsRow.lt HROW.out.row k hk).2; omega, HB1.out.trans (HB.out.mono HB1.out.size)⟩
  · have HB := Lib.hid hb
    clear hb
    go_wp2_with fail
    go_loopw [9, 18] (fun _ x18 wr => x18 = .int .i64 0 ∧ Below w1.heap.size w1 wr) (fun _ _ _ => 0)
    case atStart => exact ⟨rfl, (Below.refl _ _).alloc (Nat.le_refl _) _⟩
    case round =>
      obtain ⟨rfl, hB⟩ := hrel
      have HBr := Lib.hid hB
      clear hB
      go_wp2_with fail
      go_ret3
      exact .inr ⟨hno, _, x, hx, rfl, HB.out.trans (HBr.out.mono HB.out.size)⟩
def tgtB (x : Nat) : Bool := okR (x : Int) && decide (tagOf (x : Int) = 4)
set_option maxHeartbeats 1000000 in
set_option maxRecDepth 100000 in
theorem target_any (x : Nat) (w : World) (hx : x < 18446744073709551616) : Calls Try.prog 37 #[.int .u64 (x : Int)] w fun e w' => (∃ n : Int, e = .returned (.tuple #[.int .i64 n, .bool (tgtB x)]) ∧ (tgtB x = true → n = ((atOf x : Nat) : Int))) ∧ w = w' := by
  cases hok : okR (x : Int) with
  | false =>
    have HR := Lib.hid (read_no (x : Int) w ⟨by omega, by omega⟩ hok)
    have HT := Lib.hid (show tgtB x = false by unfold tgtB; rw [hok]; rfl)
    clear hok
    go_enter Try.func37, Try.ntmps37
    go_wp2_with fail
    refine HR.out.mono ?_
    rintro e w1 ⟨rfl, rfl⟩
    go_wp2_with fail
    go_ret2
    exact ⟨⟨0, by rw [HT.out]; rfl, fun h => by rw [HT.out] at h; cases h⟩, rfl⟩
  | true =>
    have HR := Lib.hid (read_ok (x : Int) w ⟨by omega, by omega⟩ hok)
    by_cases ht : tagOf (x : Int) = 4
    · have HT := Lib.hid (show tgtB x = true by unfold tgtB; rw [hok, ht]; rfl)
      obtain ⟨hnm, _⟩ := okR_at hok ht
      rw [ht, hnm] at HR
      clear hok ht hnm
      go_enter Try.func37, Try.ntmps37
      go_wp2_with fail
      refine HR.out.mono ?_
      rintro e w1 ⟨rfl, rfl⟩
      go_wp2_with fail
      go_ret2
      exact ⟨⟨_, by rw [HT.out]; rfl, fun _ => rfl⟩, rfl⟩
    · have HT := Lib.hid (show tgtB x = false by unfold tgtB; rw [hok, decide_eq_false ht]; rfl)
      obtain ⟨T, hT⟩ : ∃ T, tagOf (x : Int) = T := ⟨_, rfl⟩
      obtain ⟨N, hN⟩ : ∃ N, numOf (x : Int) = N := ⟨_, rfl⟩
      rw [hT, hN] at HR
      rw [hT] at ht
      have d1 : decide (T = 4) = false := decide_eq_false ht
      have d2 : (T == 4) = false := by simpa using ht
      clear hok hT hN
      go_enter Try.func37, Try.ntmps37
      go_wp2_with fail
      refine HR.out.mono ?_
      rintro e w1 ⟨rfl, rfl⟩
      go_wp2_with fail
      go_ret2
      exact ⟨⟨N, by rw [HT.out]; rfl, fun h => by rw [HT.out] at h; cases h⟩, rfl⟩
end Go.Proofs.Ytkdbnkkdohkhjaa
namespace Go.Proofs.Ytkdbnkkdohkhjaa
open Go.RowKit
set_option linter.unusedVariables false
set_option maxHeartbeats 2000000 in
set_option maxRecDepth 100000 in
theorem iword_any (l : List Ob) (C : Nat → List Value) (base mb x : Nat) (w : World) (hI : IdxW w base mb l C) (hx : x < 18446744073709551616) :
    Calls Try.prog 59 #[.map (some mb), .int .u64 (x : Int)] w fun e w' => ∃ ev : Int, e = .returned (.int .i64 ev) ∧ (ev = 0 ↔ wordOk l x) ∧ Below w.heap.size w w' := by
  cases hok : okR (x : Int) with
  | false =>
    have HR := Lib.hid (read_no (x : Int) w ⟨by omega, by omega⟩ hok)
    have HOK := Lib.hid hok
    clear hok
    go_enter Try.func59, Try.ntmps59
    go_wp2_with fail
    refine HR.out.mono ?_
    rintro e w1 ⟨rfl, rfl⟩
    go_wp2_with fail
    go_ret
    exact ⟨3, rfl, ⟨fun h => by omega, fun h => by have := h.1; rw [HOK.out] at this; cases this⟩, Below.refl _ _⟩
  | true =>
    have HR := Lib.hid (read_ok (x : Int) w ⟨by omega, by omega⟩ hok)
    have HTG := Lib.hid (target_any x w hx)
    have HOK := Lib.hid hok
    obtain ⟨T, hT⟩ : ∃ T, tagOf (x : Int) = T := ⟨_, rfl⟩
    obtain ⟨N, hN⟩ : ∃ N, numOf (x : Int) = N := ⟨_, rfl⟩
    rw [hT, hN] at HR
    by_cases ht : T = 4
    · have ht4 : tagOf (x : Int) = 4 := by rw [hT, ht]
      obtain ⟨hnm, hm60⟩ := okR_at hok ht4
      have HTB := Lib.hid (show tgtB x = true by unfold tgtB; rw [hok, ht4]; rfl)
      have HT4 := Lib.hid ht4
      obtain ⟨m, hm⟩ : ∃ m, atOf x = m := ⟨_, rfl⟩
      rw [hm] at hm60
      have HMM := Lib.hid hm
      clear hT hN ht4 hnm hok hm
      have hwf : Wf ((m : Nat) : Int) := Wf.of (by omega) (by omega)
      rcases hI.look hwf with ⟨k, o, pA, pc, hk, hp, -, -, hl⟩ | ⟨hno, -, hl⟩
      · have HK := Lib.hid (show begO l m from ⟨k, o, hk, by omega⟩)
        clear hk hp hm60 hwf hI
        go_enter Try.func59, Try.ntmps59
        go_wp2_with fail
        refine HR.out.mono ?_
        rintro e w1 ⟨rfl, rfl⟩
        go_wp2_with fail
        refine HTG.out.mono ?_
        rintro e w1 ⟨⟨n, rfl, hn⟩, rfl⟩
        have hn2 := hn HTB.out
        rw [HMM.out] at hn2
        subst hn2
        rw [HTB.out]
        clear hn
        go_wp2_with fail
        go_ret
        exact ⟨0, rfl, ⟨fun _ => ⟨HOK.out, fun _ => by rw [HMM.out]; exact HK.out⟩, fun _ => rfl⟩, (Below.refl _ _).alloc (Nat.le_refl _) _⟩
      · have HNO := Lib.hid hno
        clear hno hm60 hwf hI
        go_enter Try.func59, Try.ntmps59
        go_wp2_with fail
        refine HR.out.mono ?_
        rintro e w1 ⟨rfl, rfl⟩
        go_wp2_with fail
        refine HTG.out.mono ?_
        rintro e w1 ⟨⟨n, rfl, hn⟩, rfl⟩
        have hn2 := hn HTB.out
        rw [HMM.out] at hn2
        subst hn2
        rw [HTB.out]
        clear hn
        go_wp2_with fail
        go_ret
        exact ⟨4, rfl, ⟨fun h => by omega, fun h => (HNO.out ⟨m, rfl, by rw [← HMM.out]; exact h.2 HT4.out⟩).elim⟩, (Below.refl _ _).alloc (Nat.le_refl _) _⟩
    · have HTB := Lib.hid (show tgtB x = false by unfold tgtB; rw [hok, hT, decide_eq_false ht]; rfl)
      have HNT := Lib.hid (show tagOf (x : Int) ≠ 4 by rw [hT]; exact ht)
      clear hT hN ht hok hI
      go_enter Try.func59, Try.ntmps59
      go_wp2_with fail
      refine HR.out.mono ?_
      rintro e w1 ⟨rfl, rfl⟩
      go_wp2_with fail
      refine HTG.out.mono ?_
      rintro e w1 ⟨⟨n, rfl, hn⟩, rfl⟩
      rw [HTB.out]
      clear hn
      go_wp2_with fail
      go_ret
      exact ⟨0, rfl, ⟨fun _ => ⟨HOK.out, fun h => absurd h HNT.out⟩, fun _ => rfl⟩, Below.refl _ _⟩
/-- the box of ages -/
structure AgB (wx : World) (b : Nat) (hA : Option Addr) (hn hc : Nat) (old : Int) (lA : Option Addr) (ln lc : Nat) : Prop where
  a0 : wx.cell? ⟨b, 0, none⟩ = some (.slice hA hn hc)
  a1 : wx.cell? ⟨b, 1, none⟩ = some (.int .i64 old)
  a2 : wx.cell? ⟨b, 2, none⟩ = some (.slice lA ln lc)
  lt : b < wx.heap.size
theorem AgB.below {wx wy : World} {b : Nat} {hA : Option Addr} {hn hc : Nat} {old : Int} {lA : Option Addr} {ln lc : Nat} (h : AgB wx b hA hn hc old lA ln lc) (hb : Below wx.heap.size wx wy) : AgB wy b hA hn hc old lA ln lc :=
  ⟨(hb.cell (p := ⟨b, 0, none⟩) h.lt).trans h.a0, (hb.cell (p := ⟨b, 1, none⟩) h.lt).trans h.a1, (hb.cell (p := ⟨b, 2, none⟩) h.lt).trans h.a2, Nat.lt_of_lt_of_le h.lt hb.size⟩
theorem AgB.new (w : World) (hA : Option Addr) (hn hc : Nat) (old : Int) (lA : Option Addr) (ln lc : Nat) (t : TypeId) : AgB (w.alloc (.cells #[.slice hA hn hc, .int .i64 old, .slice lA ln lc] t)) w.heap.size hA hn hc old lA ln lc := by
  constructor <;> simp [go_sem]
theorem IdxW.mono {w : World} {base base' mb : Nat} {l : List Ob} {C : Nat → List Value} (h : IdxW w base mb l C) (hb : base' ≤ base) : IdxW w base' mb l C := ⟨h.m, fun i o ho => by
  obtain ⟨pA, pc, h1, h2⟩ := h.each i o ho
  exact ⟨pA, pc, h1, h2.mono hb⟩, h.len⟩
theorem ObRow.mono' {w : World} {base base' : Nat} {v : Value} {l : List Ob} {C : Nat → List Value} (h : ObRow w base v l C) (hb : base' ≤ base) : ObRow w base' v l C :=
  ⟨own_mono h.row hb, h.len, fun i o ho => by
    obtain ⟨pA, pc, h1, h2, h3⟩ := h.each i o ho
    exact ⟨pA, pc, h1, h2.mono hb, h3⟩⟩
def ChkYes (h : List Nat) (old : Int) (late : List Int) (w : World) (e : Ending) (w' : World) : Prop := ∃ l v mb C, OkA h old late l ∧ e = .returned (.tuple #[v, .map (some mb), .int .i64 0]) ∧ ObRow w' w.heap.size v l C ∧ IdxW w' w.heap.size mb l C ∧ w.heap.size ≤ mb ∧ (∀ k, v.ownBlock = some k → k < mb) ∧ Below w.heap.size w w'
def ChkNo (h : List Nat) (old : Int) (late : List Int) (w : World) (e : Ending) (w' : World) : Prop := (¬ ∃ l, OkA h old late l) ∧ ∃ x : Int, x ≠ 0 ∧ e = .returned (.tuple #[.slice none 0 0, .map none, .int .i64 x]) ∧ Below w.heap.size w w'
/-- the last of the first i -/
def lastI (late : List Int) : Nat → Int
  | 0 => -1
  | i + 1 => lst late i
def LateOk (l : List Ob) (old : Int) (late : List Int) (i : Nat) : Prop := ∀ (j : Nat) (x : Int), j < i → late[j]? = some x → (∃ a : Nat, x = a ∧ begO l a) ∧ x < old ∧ x ≤ lastI late i ∧ ∀ (j' : Nat) (y : Int), j' < j → late[j']? = some y → y < x
theorem lateOk_succ {l : List Ob} {old : Int} {late : List Int} {i : Nat} {x : Int} (h : LateOk l old late i) (hx : late[i]? = some x) (hb : ∃ a : Nat, x = a ∧ begO l a) (ho : x < old) (hl : lastI late i < x) : LateOk l old late (i + 1) := by
  have hlast : lastI late (i + 1) = x := by simp [lastI, lst, hx]
  intro j y hj hy
  rw [hlast]
  rcases Nat.lt_or_ge j i with h1 | h1
  · obtain ⟨k1, k2, k3, k4⟩ := h j y h1 hy
    exact ⟨k1, k2, by omega, k4⟩
  · obtain rfl : j = i := by omega
    rw [hx] at hy
    injection hy with hy
    subst hy
    refine ⟨hb, ho, by omega, fun j' y' hj' hy' => ?_⟩
    have := (h j' y' hj' hy').2.2.1
    omega
/-- a part of the object at k is right -/
def PartOk (l : List Ob) (old : Int) (late : List Int) (k p : Nat) : Prop := wordOk l p ∧ (tagOf (p : Int) = 4 → old ≤ ((atOf p : Nat) : Int) → ((posO l k : Nat) : Int) < old → ((posO l k : Nat) : Int) ∈ late)
theorem IdxW.look2 {w : World} {base mb : Nat} {l : List Ob} {C : Nat → List Value} (h : IdxW w base mb l C) {x : Int} (hx : Wf x) :
    ∃ (there : Bool) (p0 p1 p2 : Int) (p3 : ByteArray) (p4 : Option Addr) (p5 p6 : Nat), (Instr.lookup 78 (.map (some mb)) (.int .i64 x) true).run Try.prog w = .ok (.tuple #[.agg #[.int .i64 p0, .int .i64 p1, .int .i64 p2, .string p3, .slice p4 p5 p6], .bool there]) w ∧ (there = true ↔ ∃ a : Nat, x = a ∧ begO l a) := by
  rcases h.look hx with ⟨k, o, oA, oc, hk, hp, -, -, hl⟩ | ⟨hno, -, hl⟩
  · exact ⟨true, _, _, _, _, _, _, _, hl, ⟨fun _ => ⟨posO l k, hp, k, o, hk, rfl⟩, fun _ => rfl⟩⟩
  · exact ⟨false, _, _, _, _, _, _, _, hl, ⟨(fun h => by cases h), fun h => absurd h hno⟩⟩
set_option maxHeartbeats 8000000 in
set_option maxRecDepth 100000 in
theorem checked_any (h : List Nat) (hA lA : Option Addr) (hc lc : Nat) (old : Int) (late : List Int) (w : World) (hH : Su w (.slice hA h.length hc) h) (h64 : All64 h) (hlen : h.length ≤ 17592186044416) (hL : Rd w 1 (tmC (lst late)) lA late.length) (hll : late.length ≤ 17592186044416) (hwl : ∀ x ∈ late, Wf x) (hwo : Wf old) :
    Calls Try.prog 42 #[.agg #[.slice hA h.length hc, .int .i64 old, .slice lA late.length lc]] w fun e w' => ChkYes h old late w e w' ∨ ChkNo h old late w e w' := by
  have HH := Lib.hid hH
  have H64 := Lib.hid h64
  have HL := Lib.hid hL
  have HWL := Lib.hid hwl
  have HWO := Lib.hid hwo
  clear hH h64 hL hwl hwo
  have hmm := @run_makeMap Try.prog
  have HBX := Lib.hid (show Below w.heap.size w (w.alloc (.cells #[.slice hA h.length hc, .int .i64 old, .slice lA late.length lc] 26)) from (Below.refl _ _).alloc (Nat.le_refl _) _)
  have HAG := Lib.hid (AgB.new w hA h.length hc old lA late.length lc 26)
  go_enter Try.func42, Try.ntmps42
  go_wp2_with fail
  refine (indexed_any h hA hc _ (HH.out.below HBX.out) H64.out hlen).mono ?_
  rintro e w1 (⟨l, v, mb, C, hf4, hO, rfl, hrow, hidx, hmb, hvb, hb⟩ | ⟨hno, mb, x, hx, rfl, hb⟩)
  · obtain ⟨B0, hB0⟩ : ∃ B0, (w.alloc (.cells #[.slice hA h.length hc, .int .i64 old, .slice lA late.length lc] 26)).heap.size = B0 := ⟨_, rfl⟩
    have hB0' : w.heap.size < B0 := by rw [← hB0]; simp
    rw [hB0] at hrow hidx hmb hb
    have HB1 := Lib.hid (HBX.out.trans ((show Below (w.alloc (.cells #[.slice hA h.length hc, .int .i64 old, .slice lA late.length lc] 26)).heap.size _ w1 by rw [hB0]; exact hb).mono HBX.out.size))
    have HAG1 := Lib.hid (HAG.out.below (show Below (w.alloc (.cells #[.slice hA h.length hc, .int .i64 old, .slice lA late.length lc] 26)).heap.size _ w1 by rw [hB0]; exact hb))
    have HROW := Lib.hid hrow
    have HIDX := Lib.hid hidx
    have HO := Lib.hid hO
    have HVB := Lib.hid hvb
    have HB0 := Lib.hid hB0
    obtain ⟨A1, c1, rfl, _, _, _⟩ := own_any hrow.row
    obtain ⟨a0, a1, a2, a3⟩ := HAG1.out
    clear hO hrow hidx hvb hb hB0 HBX HAG
    obtain ⟨there, p0, p1, p2, p3, p4, p5, p6, hlook, hthere⟩ := HIDX.out.look2 HWO.out
    have HTH := Lib.hid hthere
    have HDROP := Lib.hid (show ∀ l', OkA h old late l' → OkA h old late l from fun l' h' => by have := obs_inj h'.obs HO.out; rw [this] at h'; exact h')
    have HB02 := Lib.hid (show ∀ o, Below w1.heap.size w1 (w1.alloc o) from fun o => (Below.refl _ _).alloc (Nat.le_refl _) o)
    clear hthere
    go_upto_region 5 with (fail)
    go_cut [48] (fun x wx => x = .bool (!there && (old != (h.length : Int))) ∧ Below w1.heap.size w1 wx)
    case first =>
      cases there with
      | true =>
        go_wp2_with fail
        go_meet
        exact ⟨rfl, HB02.out _⟩
      | false =>
        by_cases ho : old = (h.length : Int)
        · have e1 : (old != (h.length : Int)) = false := by simpa using ho
          have e2 : (old == (h.length : Int)) = true := by simpa using ho
          have HE := Lib.hid e1
          clear ho
          go_wp2_with fail
          go_meet
          exact ⟨by rw [HE.out]; rfl, HB02.out _⟩
        · have e1 : (old != (h.length : Int)) = true := by simpa using ho
          have e2 : (old == (h.length : Int)) = false := by simpa using ho
          have HE := Lib.hid e1
          clear ho
          go_wp2_with fail
          go_meet
          exact ⟨by rw [HE.out]; rfl, HB02.out _⟩
    case rest =>
    obtain ⟨hx48, hBc⟩ := hcut
    subst hx48
    obtain ⟨w2, hw2⟩ : ∃ w2 : World, w2 = wc := ⟨_, rfl⟩
    subst hw2
    have HB2 := Lib.hid hBc
    have HB20 := Lib.hid (HB1.out.trans (hBc.mono HB1.out.size))
    have HAG2 := Lib.hid (HAG1.out.below hBc)
    have HIDX2 := Lib.hid (HIDX.out.below hBc)
    have HROW2 := Lib.hid (HROW.out.below hBc)
    clear a0 a1 a2 a3 hBc hlook HB02
    obtain ⟨a0, a1, a2, a3⟩ := HAG2.out
    cases hbad : (!there && (old != (h.length : Int))) with
    | true =>
      have hbad2 : there = false ∧ ¬ old = (h.length : Int) := by simpa using hbad
      clear hbad
      go_wp2_with fail
      go_ret3
      refine .inr ⟨fun ⟨l', hl'⟩ => ?_, 1, by omega, rfl, HB20.out⟩
      rcases (HDROP.out l' hl').oldOk with h1 | h1
      · exact hbad2.2 h1
      · have := HTH.out.2 h1
        rw [hbad2.1] at this
        cases this
    | false =>
      have hold : old = (h.length : Int) ∨ ∃ a : Nat, old = a ∧ begO l a := by
        cases hth : there with
        | true => exact .inr (HTH.out.1 hth)
        | false =>
          rw [hth] at hbad
          exact .inl (by simpa using hbad)
      have HOLD := Lib.hid hold
      clear hbad hold
      obtain ⟨lb, hlb⟩ : ∃ lb, w2.heap.size = lb := ⟨_, rfl⟩
      have HLB := Lib.hid hlb
      clear hlb
      go_wp2_with fail
      rw [HLB.out]
      go_loopw [11, 13, 14, 15, 53] (fun x11 _ _ _ x53 wr => ∃ i : Nat, i ≤ late.length ∧ x53 = .int .i64 (i : Int) ∧ x11 = .int .i64 (lastI late i) ∧ OwnMS wr lb i (fun y => decide (y ∈ late.take i)) ∧ LateOk l old late i ∧ Below w2.heap.size w2 wr) (fun _ _ _ _ x53 _ => late.length - (intOf x53).toNat)
      case atStart =>
        refine ⟨0, Nat.zero_le _, rfl, rfl, ?_, fun j x hj => by omega, (Below.refl _ _).alloc (Nat.le_refl _) _⟩
        have := OwnMS.made w2
        rw [HLB.out] at this
        simpa using this
      case round =>
        obtain ⟨i, hi, rfl, rfl, hM, hLO, hB⟩ := hrel
        have HM := Lib.hid hM
        have HLO := Lib.hid hLO
        have HB := Lib.hid hB
        have hBsz := hB.size
        clear hM hLO hB a0 a1 a2 a3
        obtain ⟨a0, a1, a2, a3⟩ := (HAG2.out.below HB.out)
        by_cases hlt : i < late.length
        · obtain ⟨bL, oL, rfl, hbL, hcL⟩ := HL.out (by omega)
          obtain ⟨x, hx⟩ : ∃ x, late[i]? = some x := ⟨_, List.getElem?_eq_getElem hlt⟩
          have hlx : lst late i = x := by simp [lst, hx]
          have hcx := hcL i hlt 0 _ rfl
          simp only [Nat.mul_one, Nat.add_zero] at hcx
          rw [hlx] at hcx
          have cx : wr.cell? ⟨bL, oL + i, none⟩ = some (.int .i64 x) := ((HB20.out.trans (HB.out.mono HB20.out.size)).cell (p := ⟨bL, _, none⟩) hbL).trans hcx
          have HX := Lib.hid hx
          have HLX := Lib.hid hlx
          have hwx := HWL.out x (List.mem_of_getElem? hx)
          obtain ⟨th, p0, p1, p2, p3, p4, p5, p6, hlook, hth⟩ := (HIDX2.out.below HB.out).look2 hwx
          have HTH2 := Lib.hid hth
          have HWX := Lib.hid hwx
          have HPOS := Lib.hid (show ∀ l', OkA h old late l' → (∃ a : Nat, x = a ∧ begO l a) ∧ x < old ∧ lastI late i < x from fun l' hl' => by
            obtain ⟨k1, k2, k3⟩ := (HDROP.out l' hl').lateOk i x hx
            refine ⟨k1, k2, ?_⟩
            cases i with
            | zero => obtain ⟨a, ha, _⟩ := k1; show (-1 : Int) < x; omega
            | succ i' =>
              have hj : late[i']? = some (lst late i') := by
                have : i' < late.length := by omega
                simp [lst, this]
              exact k3 i' _ (by omega) hj)
          have HBO := Lib.hid (show ∀ o, Below w2.heap.size w2 (wr.alloc o) from fun o => HB.out.alloc HB.out.size o)
          clear hcL hcx hx hlx hwx hth
          obtain ⟨la, hla⟩ : ∃ la, lastI late i = la := ⟨_, rfl⟩
          have HLA := Lib.hid hla
          rw [hla] at HPOS
          rw [hla]
          clear hla
          have j0 : (0 : Int) ≤ (i : Int) := by omega
          have j1 : (i : Int) < (late.length : Int) := by omega
          cases th with
          | false =>
            go_wp2_with fail
            go_ret3
            refine .inr ⟨fun ⟨l', hl'⟩ => ?_, 21, by omega, rfl, HB20.out.trans ((HBO.out _).mono HB20.out.size)⟩
            have := HTH2.out.2 (HPOS.out l' hl').1
            cases this
          | true =>
            by_cases hxl : x ≤ la
            · have d1 : decide (x ≤ la) = true := decide_eq_true hxl
              have HXL := Lib.hid hxl
              clear hxl
              go_wp2_with fail
              go_ret3
              refine .inr ⟨fun ⟨l', hl'⟩ => ?_, 21, by omega, rfl, HB20.out.trans ((HBO.out _).mono HB20.out.size)⟩
              have h1 := (HPOS.out l' hl').2.2
              have h2 := HXL.out
              omega
            · have d1 : decide (x ≤ la) = false := decide_eq_false hxl
              have HXL := Lib.hid (show la < x by omega)
              by_cases hxo : old ≤ x
              · have d2 : decide (old ≤ x) = true := decide_eq_true hxo
                have HXO := Lib.hid hxo
                clear hxl hxo
                go_wp2_with fail
                go_ret3
                refine .inr ⟨fun ⟨l', hl'⟩ => ?_, 21, by omega, rfl, HB20.out.trans ((HBO.out _).mono HB20.out.size)⟩
                have h1 := (HPOS.out l' hl').2.1
                have h2 := HXO.out
                omega
              · have d2 : decide (old ≤ x) = false := decide_eq_false hxo
                have HXO := Lib.hid (show x < old by omega)
                have HNEW := Lib.hid (show decide (x ∈ late.take i) = false from decide_eq_false (fun hm => by
                  obtain ⟨j, hj⟩ := List.mem_iff_getElem?.1 hm
                  rw [List.getElem?_take] at hj
                  by_cases hji : j < i
                  · rw [if_pos hji] at hj
                    have h1 := (HLO.out j x hji hj).2.2.1
                    have h2 := HLA.out
                    have h3 := HXL.out
                    omega
                  · rw [if_neg hji] at hj
                    cases hj))
                have HML := Lib.hid (show i < maxLen from by unfold maxLen; omega)
                have HMA := Lib.hid (fun o => HM.out.below (show Below wr.heap.size wr (wr.alloc o) from (Below.refl _ _).alloc (Nat.le_refl _) o))
                clear hxl hxo
                go_wp2_with (at_mapUpdate; (refine wpList_store_S rfl _ _ _ rfl lb i (fun y => decide (y ∈ late.take i)) rfl (HMA.out _) HML.out x HNEW.out rfl rfl HWX.out ?_; intro w5 hM5 hg5; have HM5 := Lib.hid hM5; have HG5 := Lib.hid hg5; clear hM5 hg5))
                refine ⟨⟨i + 1, by omega, by go_num, ?_, ?_, ?_, ?_⟩, by simp [intOf]; omega⟩
                · rw [lastI, HLX.out]
                · have e : (fun y => decide (y ∈ late.take (i + 1))) = fun y => if y = x then true else decide (y ∈ late.take i) := by
                    funext y
                    rw [List.take_add_one, HX.out]
                    by_cases hy : y = x
                    · subst hy; simp
                    · simp [hy]
                  rw [e]
                  exact HM5.out
                · exact lateOk_succ HLO.out HX.out (HTH2.out.1 rfl) HXO.out (by rw [HLA.out]; exact HXL.out)
                · exact below_grown (HBO.out _) (by simp; omega) HG5.out (fun g hg => by injection hg with hg; have := HLB.out; omega)
        · have hil : i = late.length := by omega
          have HIL := Lib.hid hil
          have d0 : decide ((i : Int) < (late.length : Int)) = false := decide_eq_false (by omega)
          clear hil
          obtain ⟨w3, hw3⟩ : ∃ w3 : World, w3 = wr := ⟨_, rfl⟩
          subst hw3
          have HLOF := Lib.hid (show LateOk l old late late.length from by have := HLO.out; rw [HIL.out] at this; exact this)
          have HMF := Lib.hid (show OwnMS w3 lb late.length (fun y => decide (y ∈ late)) from by have := HM.out; rw [HIL.out, List.take_length] at this; exact this)
          have HB30 := Lib.hid (HB20.out.trans (HB.out.mono HB20.out.size))
          have HAG3 := Lib.hid (HAG2.out.below HB.out)
          have HIDX3 := Lib.hid (HIDX2.out.below HB.out)
          have HROW3 := Lib.hid (HROW2.out.below HB.out)
          go_wp2_with fail
          go_loopw [17, 19, 20, 21, 82] (fun _ _ _ _ x82 wx => ∃ k : Nat, k ≤ l.length ∧ x82 = .int .i64 (k : Int) ∧ (∀ k' o, k' < k → l[k']? = some o → ∀ p ∈ o.parts, PartOk l old late k' p) ∧ Below w3.heap.size w3 wx) (fun _ _ _ _ x82 _ => l.length - (intOf x82).toNat)
          case atStart => exact ⟨0, Nat.zero_le _, rfl, fun k' o hk => by omega, Below.refl _ _⟩
          case round =>
            obtain ⟨k, hk, rfl, hdone, hB⟩ := hrel
            have HDONE := Lib.hid hdone
            have HBr := Lib.hid hB
            have hBr := hB.size
            clear hdone hB a0 a1 a2 a3
            obtain ⟨a0, a1, a2, a3⟩ := (HAG3.out.below HBr.out)
            by_cases hlt : k < l.length
            · have HRW := Lib.hid (HROW3.out.below HBr.out)
              obtain ⟨o, ho⟩ : ∃ o, l[k]? = some o := ⟨_, List.getElem?_eq_getElem hlt⟩
              obtain ⟨pA, pc, hC, hP, _⟩ := HRW.out.each k o ho
              obtain ⟨bk, cap, hv, hbk, hlt2, _⟩ := own_form HRW.out.row (by omega)
              injection hv with hv1 _ hv3
              subst hv1 hv3
              have hcell := fun j (hj : j < 5) => own_cellC HRW.out.row HRW.out.len hlt (j := j) hj
              have hC2 : C k = obC (posO l k) o pA pc := hC
              rw [hC2] at hcell
              obtain ⟨G, hG⟩ : ∃ G, posO l k = G := ⟨_, rfl⟩
              rw [hG] at hcell
              have HG := Lib.hid hG
              have HOO := Lib.hid ho
              have hgo := HO.out.2 o (List.mem_of_getElem? ho)
              have HP64 := Lib.hid hgo.parts
              have hpl4 : o.parts.length ≤ 400 := by
                have h1 := (okOb_iff.1 hgo.ok).2.2.2.1
                have h2 := mostP_le o.kind
                omega
              have hGl : G ≤ 4000 := by
                have h1 := posO_le l k
                rw [← HO.out.1, hG] at h1
                omega
              obtain ⟨kd, hkd⟩ : ∃ kd, o.kind = kd := ⟨_, rfl⟩
              obtain ⟨nm, hnm⟩ : ∃ nm, o.num = nm := ⟨_, rfl⟩
              obtain ⟨tx, htx⟩ : ∃ tx, o.text = tx := ⟨_, rfl⟩
              obtain ⟨pp, hpp⟩ : ∃ pp, o.parts = pp := ⟨_, rfl⟩
              have c0 : wr.cell? ⟨bk, k * 5, none⟩ = some (.int .i64 ((G : Nat) : Int)) := hcell 0 (by omega)
              have c1 : wr.cell? ⟨bk, k * 5 + 1, none⟩ = some (.int .i64 kd) := by rw [← hkd]; exact hcell 1 (by omega)
              have c2 : wr.cell? ⟨bk, k * 5 + 2, none⟩ = some (.int .i64 nm) := by rw [← hnm]; exact hcell 2 (by omega)
              have c3 : wr.cell? ⟨bk, k * 5 + 3, none⟩ = some (.string tx) := by rw [← htx]; exact hcell 3 (by omega)
              have c4 : wr.cell? ⟨bk, k * 5 + 4, none⟩ = some (.slice pA pp.length pc) := by rw [← hpp]; exact hcell 4 (by omega)
              rw [hpp] at hP HP64 hpl4
              have HPP := Lib.hid hpp
              have HPU := Lib.hid hP
              clear hC hC2 hcell ho hG hgo hkd hnm htx hpp hP
              have HWF := Lib.hid (show Wf ((G : Nat) : Int) from Wf.of (by omega) (by omega))
              obtain ⟨W4, hW4⟩ : ∃ W4, W4 = wr.alloc (.cells #[.int .i64 ((G : Nat) : Int), .int .i64 kd, .int .i64 nm, .string tx, .slice pA pp.length pc] 33) := ⟨_, rfl⟩
              have HB4 := Lib.hid (show Below wr.heap.size wr W4 by rw [hW4]; exact (Below.refl _ _).alloc (Nat.le_refl _) _)
              have HY0 := Lib.hid (show W4.cell? ⟨wr.heap.size, 0, none⟩ = some (.int .i64 ((G : Nat) : Int)) by rw [hW4]; simp [go_sem])
              have y4 : W4.cell? ⟨wr.heap.size, 4, none⟩ = some (.slice pA pp.length pc) := by rw [hW4]; simp [go_sem]
              have hz4 : wr.heap.size < W4.heap.size := by rw [hW4]; simp
              obtain ⟨bx, hbx⟩ : ∃ bx, wr.heap.size = bx := ⟨_, rfl⟩
              have HBX4 := Lib.hid hbx
              have HPU4 := Lib.hid (HPU.out.below HB4.out)
              rw [hbx] at HY0 y4 hz4
              have HB34 := Lib.hid (HBr.out.trans (HB4.out.mono HBr.out.size))
              clear hbx
              go_wp2_with fail
              rw [← hW4, HBX4.out]
              clear hW4 c0 c1 c2 c3 c4 a0 a1 a2 a3
              go_loopw [19, 20, 21, 89] (fun _ _ _ x89 wx => ∃ j : Nat, j ≤ pp.length ∧ x89 = .int .i64 (j : Int) ∧ (∀ j', j' < j → PartOk l old late k (nth pp j')) ∧ Below W4.heap.size W4 wx) (fun _ _ _ x89 _ => pp.length - (intOf x89).toNat)
              case atStart => exact ⟨0, Nat.zero_le _, rfl, fun j' hj => by omega, Below.refl _ _⟩
              case round =>
                obtain ⟨j, hj, rfl, hpd, hB⟩ := hrel
                have HPD := Lib.hid hpd
                have HBj := Lib.hid hB
                have hBj := hB.size
                clear hpd hB
                by_cases hjl : j < pp.length
                · obtain ⟨bp, op, rfl, hbp, hcp⟩ := HPU4.out.rd (by omega)
                  have hcq := hcp j hjl 0 _ rfl
                  simp only [Nat.mul_one, Nat.add_zero] at hcq
                  have cq : wr.cell? ⟨bp, op + j, none⟩ = some (.int .u64 ((nth pp j : Nat) : Int)) := (HBj.out.cell (p := ⟨bp, _, none⟩) hbp).trans hcq
                  have hp64 : nth pp j < 18446744073709551616 := HP64.out.nth j
                  obtain ⟨p, hp⟩ : ∃ p, nth pp j = p := ⟨_, rfl⟩
                  rw [hp] at cq hp64
                  have HPP' := Lib.hid hp
                  have y0' := (HBj.out.cell (p := ⟨bx, 0, none⟩) hz4).trans HY0.out
                  have HBw3 := Lib.hid (HB34.out.trans (HBj.out.mono HB34.out.size))
                  obtain ⟨a0, a1, a2, a3⟩ := (HAG3.out.below HBw3.out)
                  have HIW := Lib.hid (HIDX3.out.below HBw3.out)
                  have j0 : (0 : Int) ≤ (j : Int) := by omega
                  have j1 : (j : Int) < (pp.length : Int) := by omega
                  have HIN := Lib.hid (show p ∈ o.parts by rw [HPP.out, ← hp, nth_get hjl]; exact List.getElem_mem _)
                  clear hcp hcq hp
                  go_wp2_with fail
                  refine (iword_any l C _ mb p _ HIW.out hp64).mono ?_
                  rintro e w6 ⟨ev, rfl, hev, hb6⟩
                  have HB6 := Lib.hid hb6
                  have HBw6 := Lib.hid (HBw3.out.trans (hb6.mono HBw3.out.size))
                  have HB46 := Lib.hid (HBj.out.trans (hb6.mono hBj))
                  clear hb6
                  by_cases hev0 : ev = 0
                  · have hwk := hev.1 hev0
                    subst hev0
                    have HWK := Lib.hid hwk
                    clear hev hwk
                    go_wp2_with fail
                    refine (target_any p _ hp64).mono ?_
                    rintro e w7 ⟨⟨n, rfl, hn⟩, rfl⟩
                    have y0'' := (HB46.out.cell (p := ⟨bx, 0, none⟩) hz4).trans HY0.out
                    clear a0 a1 a2 a3
                    obtain ⟨a0, a1, a2, a3⟩ := (HAG3.out.below HBw6.out)
                    cases htb : tgtB p with
                    | false =>
                      have HNT := Lib.hid (show tagOf (p : Int) ≠ 4 from fun h => by unfold tgtB at htb; rw [HWK.out.1, h] at htb; cases htb)
                      clear htb hn
                      go_wp2_with fail
                      refine ⟨⟨j + 1, by omega, by go_num, fun j' hj' => ?_, HB46.out⟩, by simp [intOf]; omega⟩
                      by_cases hjj : j' < j
                      · exact HPD.out j' hjj
                      · obtain rfl : j' = j := by omega
                        rw [HPP'.out]
                        exact ⟨HWK.out, fun h => absurd h HNT.out⟩
                    | true =>
                      have HT4 := Lib.hid (show tagOf (p : Int) = 4 from by unfold tgtB at htb; simp only [Bool.and_eq_true, decide_eq_true_eq] at htb; exact htb.2)
                      have hn2 := hn htb
                      obtain ⟨q, hq⟩ : ∃ q, atOf p = q := ⟨_, rfl⟩
                      rw [hq] at hn2
                      subst hn2
                      have HQ := Lib.hid hq
                      have HNX := Lib.hid (show (old ≤ ((q : Nat) : Int) → ((G : Nat) : Int) < old → ((G : Nat) : Int) ∈ late) → ∀ j', j' < j + 1 → PartOk l old late k (nth pp j') from fun hh j' hj' => by
                        by_cases hjj : j' < j
                        · exact HPD.out j' hjj
                        · obtain rfl : j' = j := by omega
                          rw [HPP'.out]
                          refine ⟨HWK.out, fun _ h1 h2 => ?_⟩
                          rw [HG.out] at h2 ⊢
                          rw [HQ.out] at h1
                          exact hh h1 h2)
                      clear htb hn hq
                      by_cases k1 : old ≤ ((q : Nat) : Int)
                      · have d1 : decide (old ≤ ((q : Nat) : Int)) = true := decide_eq_true k1
                        by_cases k2 : ((G : Nat) : Int) < old
                        · have d2 : decide (((G : Nat) : Int) < old) = true := decide_eq_true k2
                          have hlk : (Instr.lookup 132 (.map (some lb)) (.int .i64 ((G : Nat) : Int)) false).run Try.prog w6 = .ok (.bool (decide (((G : Nat) : Int) ∈ late))) w6 := (HMF.out.below HBw6.out).look HWF.out
                          cases hin : decide (((G : Nat) : Int) ∈ late) with
                          | true =>
                            have HINL := Lib.hid (of_decide_eq_true hin)
                            rw [hin] at hlk
                            clear hin k1 k2
                            go_wp2_with fail
                            exact ⟨⟨j + 1, by omega, by go_num, HNX.out (fun _ _ => HINL.out), HB46.out⟩, by simp [intOf]; omega⟩
                          | false =>
                            have HINL := Lib.hid (of_decide_eq_false hin)
                            have HK1 := Lib.hid k1
                            have HK2 := Lib.hid k2
                            rw [hin] at hlk
                            clear hin k1 k2
                            go_wp2_with fail
                            go_ret3
                            refine .inr ⟨fun ⟨l', hl'⟩ => ?_, 8, by omega, rfl, HB30.out.trans (HBw6.out.mono HB30.out.size)⟩
                            have h1 := ((HDROP.out l' hl').parts k o HOO.out p HIN.out).2
                            rw [HG.out, HQ.out] at h1
                            exact HINL.out (h1 HT4.out HK1.out HK2.out)
                        · have d2 : decide (((G : Nat) : Int) < old) = false := decide_eq_false k2
                          have HK2 := Lib.hid k2
                          clear k1 k2
                          go_wp2_with fail
                          exact ⟨⟨j + 1, by omega, by go_num, HNX.out (fun _ h => by have h9 := HK2.out; omega), HB46.out⟩, by simp [intOf]; omega⟩
                      · have d1 : decide (old ≤ ((q : Nat) : Int)) = false := decide_eq_false k1
                        have HK1 := Lib.hid k1
                        clear k1
                        go_wp2_with fail
                        exact ⟨⟨j + 1, by omega, by go_num, HNX.out (fun h _ => by have h9 := HK1.out; omega), HB46.out⟩, by simp [intOf]; omega⟩
                  · have e1 : (ev != 0) = true := by simpa using hev0
                    have HEV := Lib.hid hev
                    have HEV0 := Lib.hid hev0
                    clear hev hev0
                    go_wp2_with fail
                    go_ret3
                    refine .inr ⟨fun ⟨l', hl'⟩ => HEV0.out (HEV.out.2 ((HDROP.out l' hl').parts k o HOO.out p HIN.out).1), 4, by omega, rfl, HB30.out.trans (HBw6.out.mono HB30.out.size)⟩
                · have hjl2 : j = pp.length := by omega
                  have HJL := Lib.hid hjl2
                  have d0 : decide ((j : Int) < (pp.length : Int)) = false := decide_eq_false (by omega)
                  clear hjl2
                  have HEND := Lib.hid (show ∀ k' o', k' < k + 1 → l[k']? = some o' → ∀ p ∈ o'.parts, PartOk l old late k' p from fun k' o' hk' ho' p hp => by
                    by_cases hkk : k' < k
                    · exact HDONE.out k' o' hkk ho' p hp
                    · obtain rfl : k' = k := by omega
                      rw [HOO.out] at ho'
                      injection ho' with ho'
                      subst ho'
                      rw [HPP.out] at hp
                      obtain ⟨j', hj', rfl⟩ := List.getElem_of_mem hp
                      have := HPD.out j' (by have := HJL.out; omega)
                      rw [nth_get hj'] at this
                      exact this)
                  go_wp2_with fail
                  exact ⟨⟨k + 1, by omega, by go_num, HEND.out, HB34.out.trans (HBj.out.mono HB34.out.size)⟩, by simp [intOf]; omega⟩
            · have hkl : k = l.length := by omega
              have HKL := Lib.hid hkl
              have d0 : decide ((k : Int) < (l.length : Int)) = false := decide_eq_false (by omega)
              clear hkl
              go_wp2_with fail
              go_ret3
              refine .inl ⟨l, _, mb, C, ⟨hf4, HO.out, HOLD.out, fun i x hx => ?_, fun k' o ho p hp => ?_⟩, rfl, (HROW3.out.below HBr.out).mono' (by omega), (HIDX3.out.below HBr.out).mono (by omega), by omega, HVB.out, HB30.out.trans (HBr.out.mono HB30.out.size)⟩
              · obtain ⟨q1, q2, q3, q4⟩ := HLOF.out i x (List.getElem?_eq_some_iff.1 hx).1 hx
                exact ⟨q1, q2, q4⟩
              · exact HDONE.out k' o (by have h1 := HKL.out; have h2 := (List.getElem?_eq_some_iff.1 ho).1; omega) ho p hp
  · have HB := Lib.hid (HBX.out.trans (hb.mono HBX.out.size))
    have x0 : (x != 0) = true := by simpa using hx
    clear hb
    go_wp2_with fail
    go_ret3
    exact .inr ⟨fun ⟨l, hl⟩ => hno ⟨hl.len, l, hl.obs⟩, x, hx, rfl, HB.out⟩
end Go.Proofs.Ytkdbnkkdohkhjaa
namespace Go.Proofs.Ytkdbnkkdohkhjaa
open Go.RowKit
set_option linter.unusedVariables false
def StYes (h : List Nat) (old : Int) (late : List Int) (roots : List Nat) (w : World) (e : Ending) (w' : World) : Prop := ∃ l mb C, OkA h old late l ∧ (∀ p ∈ roots, wordOk l p) ∧ e = .returned (.tuple #[.map (some mb), .int .i64 0]) ∧ IdxW w' w.heap.size mb l C ∧ w.heap.size ≤ mb ∧ Below w.heap.size w w'
def StNo (h : List Nat) (old : Int) (late : List Int) (roots : List Nat) (w : World) (e : Ending) (w' : World) : Prop := (¬ ∃ l, OkA h old late l ∧ ∀ p ∈ roots, wordOk l p) ∧ ∃ x : Int, x ≠ 0 ∧ e = .returned (.tuple #[.map none, .int .i64 x]) ∧ Below w.heap.size w w'
set_option maxHeartbeats 4000000 in
set_option maxRecDepth 100000 in
theorem started_any (h roots : List Nat) (hA lA rA : Option Addr) (hc lc rc : Nat) (old : Int) (late : List Int) (w : World) (hH : Su w (.slice hA h.length hc) h) (h64 : All64 h) (hlen : h.length ≤ 17592186044416) (hL : Rd w 1 (tmC (lst late)) lA late.length) (hll : late.length ≤ 17592186044416) (hwl : ∀ x ∈ late, Wf x) (hwo : Wf old) (hR : Su w (.slice rA roots.length rc) roots) (r64 : All64 roots) (hrl : roots.length ≤ 17592186044416) :
    Calls Try.prog 35 #[.agg #[.slice hA h.length hc, .int .i64 old, .slice lA late.length lc], .slice rA roots.length rc] w fun e w' => StYes h old late roots w e w' ∨ StNo h old late roots w e w' := by
  have HH := Lib.hid hH
  have H64 := Lib.hid h64
  have HL := Lib.hid hL
  have HWL := Lib.hid hwl
  have HWO := Lib.hid hwo
  have HR := Lib.hid hR
  have HR64 := Lib.hid r64
  clear hH h64 hL hwl hwo hR r64
  have HBX := Lib.hid (show Below w.heap.size w (w.alloc (.cells #[.slice hA h.length hc, .int .i64 old, .slice lA late.length lc] 26)) from (Below.refl _ _).alloc (Nat.le_refl _) _)
  go_enter Try.func35, Try.ntmps35
  go_wp2_with fail
  refine (checked_any h hA lA hc lc old late _ (HH.out.below HBX.out) H64.out hlen (HL.out.below HBX.out) hll HWL.out HWO.out).mono ?_
  rintro e w1 (⟨l, v, mb, C, hok, rfl, hrow, hidx, hmb, -, hb⟩ | ⟨hno, x, hx, rfl, hb⟩)
  · have HB1 := Lib.hid (HBX.out.trans (hb.mono HBX.out.size))
    have hz : w.heap.size ≤ (w.alloc (.cells #[.slice hA h.length hc, .int .i64 old, .slice lA late.length lc] 26)).heap.size := HBX.out.size
    have HIDX := Lib.hid (hidx.mono hz)
    have hmb0 : w.heap.size ≤ mb := by omega
    have HOK := Lib.hid hok
    have HDROP := Lib.hid (show ∀ l', OkA h old late l' → l' = l from fun l' h' => obs_inj h'.obs HOK.out.obs)
    obtain ⟨A1, c1, rfl, _, _, _⟩ := own_any hrow.row
    clear hb hrow hidx hmb hok hz
    go_wp2_with fail
    go_loopw [10, 11, 23] (fun _ _ x23 wr => ∃ i : Nat, i ≤ roots.length ∧ x23 = .int .i64 (i : Int) ∧ (∀ j, j < i → wordOk l (nth roots j)) ∧ Below w1.heap.size w1 wr) (fun _ _ x23 _ => roots.length - (intOf x23).toNat)
    case atStart => exact ⟨0, Nat.zero_le _, rfl, fun j hj => by omega, Below.refl _ _⟩
    case round =>
      obtain ⟨i, hi, rfl, hd, hB⟩ := hrel
      have HD := Lib.hid hd
      have HB := Lib.hid hB
      have HB0 := Lib.hid (HB1.out.trans (hB.mono HB1.out.size))
      clear hd hB
      by_cases hlt : i < roots.length
      · obtain ⟨rA', rc', e, x1, x2, x3, x4⟩ := HR.out
        injection e with e1 e2 e3
        clear e2
        subst e1 e3
        obtain ⟨bR, oR, rfl, hbR, hcR⟩ := x4 (by omega)
        have hcq := hcR i hlt 0 _ rfl
        simp only [Nat.mul_one, Nat.add_zero] at hcq
        have cq : wr.cell? ⟨bR, oR + i, none⟩ = some (.int .u64 ((nth roots i : Nat) : Int)) := (HB0.out.cell (p := ⟨bR, _, none⟩) hbR).trans hcq
        have hp64 : nth roots i < 18446744073709551616 := HR64.out.nth i
        obtain ⟨p, hp⟩ : ∃ p, nth roots i = p := ⟨_, rfl⟩
        rw [hp] at cq hp64
        have HP := Lib.hid hp
        have HIN := Lib.hid (show p ∈ roots by rw [← hp, nth_get hlt]; exact List.getElem_mem _)
        have j0 : (0 : Int) ≤ (i : Int) := by omega
        have j1 : (i : Int) < (roots.length : Int) := by omega
        clear hcR hcq hp x1 x2 x3 x4
        go_wp2_with fail
        refine (iword_any l C _ mb p _ (HIDX.out.below HB.out) hp64).mono ?_
        rintro e w6 ⟨ev, rfl, hev, hb6⟩
        have HEV := Lib.hid hev
        have HB6 := Lib.hid (HB.out.trans (hb6.mono HB.out.size))
        clear hev hb6
        by_cases hev0 : ev = 0
        · subst hev0
          have HWK := Lib.hid (HEV.out.1 rfl)
          clear HEV
          go_wp2_with fail
          refine ⟨⟨i + 1, by omega, by go_num, fun j hj => ?_, HB6.out⟩, by simp [intOf]; omega⟩
          by_cases hji : j < i
          · exact HD.out j hji
          · obtain rfl : j = i := by omega
            rw [HP.out]
            exact HWK.out
        · have e1 : (ev != 0) = true := by simpa using hev0
          have HE0 := Lib.hid hev0
          clear hev0
          go_wp2_with fail
          go_ret2
          refine .inr ⟨fun ⟨l', hl', hr'⟩ => HE0.out (HEV.out.2 ?_), ev, HE0.out, rfl, HB1.out.trans (HB6.out.mono HB1.out.size)⟩
          have := hr' p HIN.out
          rw [HDROP.out l' hl'] at this
          exact this
      · have hil : i = roots.length := by omega
        have HIL := Lib.hid hil
        have d0 : decide ((i : Int) < (roots.length : Int)) = false := decide_eq_false (by omega)
        clear hil
        go_wp2_with fail
        go_ret2
        refine .inl ⟨l, mb, C, HOK.out, fun p hp => ?_, rfl, HIDX.out.below HB.out, hmb0, HB0.out⟩
        obtain ⟨j, hj, rfl⟩ := List.getElem_of_mem hp
        have := HD.out j (by have := HIL.out; omega)
        rw [nth_get hj] at this
        exact this
  · have HB := Lib.hid (HBX.out.trans (hb.mono HBX.out.size))
    have x0 : (x != 0) = true := by simpa using hx
    clear hb
    go_wp2_with fail
    go_ret2
    exact .inr ⟨fun ⟨l, hl, _⟩ => hno ⟨l, hl⟩, x, hx, rfl, HB.out⟩
set_option maxHeartbeats 2000000 in
set_option maxRecDepth 100000 in
theorem check_any (h : List Nat) (hA lA : Option Addr) (hc lc : Nat) (old : Int) (late : List Int) (w : World) (hH : Su w (.slice hA h.length hc) h) (h64 : All64 h) (hlen : h.length ≤ 17592186044416) (hL : Rd w 1 (tmC (lst late)) lA late.length) (hll : late.length ≤ 17592186044416) (hwl : ∀ x ∈ late, Wf x) (hwo : Wf old) :
    Calls Try.prog 13 #[.agg #[.slice hA h.length hc, .int .i64 old, .slice lA late.length lc]] w fun e w' => ∃ x : Int, e = .returned (.int .i64 x) ∧ (x = 0 ↔ ∃ l, OkA h old late l) ∧ Below w.heap.size w w' := by
  have HH := Lib.hid hH
  have H64 := Lib.hid h64
  have HL := Lib.hid hL
  have HWL := Lib.hid hwl
  have HWO := Lib.hid hwo
  clear hH h64 hL hwl hwo
  have HBX := Lib.hid (show Below w.heap.size w (w.alloc (.cells #[.slice hA h.length hc, .int .i64 old, .slice lA late.length lc] 26)) from (Below.refl _ _).alloc (Nat.le_refl _) _)
  go_enter Try.func13, Try.ntmps13
  go_wp2_with fail
  refine (checked_any h hA lA hc lc old late _ (HH.out.below HBX.out) H64.out hlen (HL.out.below HBX.out) hll HWL.out HWO.out).mono ?_
  rintro e w1 (⟨l, v, mb, C, hok, rfl, -, -, -, -, hb⟩ | ⟨hno, x, hx, rfl, hb⟩)
  · have HB := Lib.hid (HBX.out.trans (hb.mono HBX.out.size))
    have HOK := Lib.hid hok
    clear hb hok
    go_wp2_with fail
    go_ret
    exact ⟨0, rfl, ⟨fun _ => ⟨l, HOK.out⟩, fun _ => rfl⟩, HB.out⟩
  · have HB := Lib.hid (HBX.out.trans (hb.mono HBX.out.size))
    clear hb
    go_wp2_with fail
    go_ret
    exact ⟨x, rfl, ⟨fun h => absurd h hx, fun h => absurd h hno⟩, HB.out⟩
end Go.Proofs.Ytkdbnkkdohkhjaa
namespace Go.Proofs.Ytkdbnkkdohkhjaa
open Go.RowKit
/-- an array into which a run has been written -/
def setRun : Array Value → Nat → List Value → Array Value
  | cur, _, [] => cur
  | cur, o, v :: vs => setRun (cur.setIfInBounds o v) (o + 1) vs
theorem setRun_size (vs : List Value) : ∀ (cur : Array Value) (o : Nat), (setRun cur o vs).size = cur.size := by
  induction vs with
  | nil => intro cur o; rfl
  | cons v vs ih => intro cur o; rw [setRun, ih]; simp
theorem setRun_get (cur : Array Value) (o : Nat) (vs : List Value) {j : Nat} (h : o + vs.length ≤ cur.size) : (setRun cur o vs)[j]? = if o ≤ j ∧ j < o + vs.length then vs[j - o]? else cur[j]? := by
  induction vs generalizing cur o with
  | nil => rw [setRun, if_neg (by simp)]
  | cons v vs ih =>
    simp only [List.length_cons] at h
    rw [setRun, ih _ _ (by simp; omega)]
    simp only [List.length_cons]
    by_cases h1 : o + 1 ≤ j ∧ j < o + 1 + vs.length
    · rw [if_pos h1, if_pos (by omega), show j - o = (j - (o + 1)) + 1 by omega]
      simp
    · rw [if_neg h1]
      by_cases h2 : j = o
      · subst h2
        rw [if_pos (by omega), Array.getElem?_setIfInBounds, if_pos rfl, if_pos (by omega)]
        simp
      · rw [if_neg (by omega), Array.getElem?_setIfInBounds, if_neg (by omega)]
theorem heap_setCells_run (w : World) (g : Nat) (e : TypeId) (vs : List Value) : ∀ (o : Nat) (cur : Array Value), w.heap[g]? = some (.cells cur e (0, 0)) → (w.setCells g o vs).heap[g]? = some (.cells (setRun cur o vs) e (0, 0)) := by
  induction vs generalizing w with
  | nil => intro o cur h; exact h
  | cons v vs ih =>
    intro o cur h
    have e1 : w.setCells g o (v :: vs) = (w.setCell ⟨g, o, none⟩ v).setCells g (o + 1) vs := rfl
    rw [e1]
    exact ih _ (o + 1) _ (heap_setCell_same w g o cur e v h)
theorem grown_setCellsQ (w : World) (g : Nat) (vs : List Value) : ∀ (o : Nat), w.grownBy (w.setCells g o vs) (some g) := by
  induction vs generalizing w with
  | nil => intro o; exact grown_self _ _
  | cons v vs ih =>
    intro o
    have e1 : w.setCells g o (v :: vs) = (w.setCell ⟨g, o, none⟩ v).setCells g (o + 1) vs := rfl
    rw [e1]
    exact grown_step (grown_set (grown_self w _) v) (ih _ (o + 1)) (.inl rfl)
def QR (w : World) (base : Nat) (e : TypeId) (sz : Nat) (v : Value) (n : Nat) (xs : List Value) : Prop :=
  xs.length = n * sz ∧ ∃ (ao : Option Addr) (cap : Nat), v = .slice ao n cap ∧ n ≤ cap ∧ cap ≤ 9223372036854775807 ∧ (ao = none → cap = 0) ∧
    (0 < cap → ∃ (b off : Nat) (cur : Array Value), ao = some ⟨b, off, none⟩ ∧ base ≤ b ∧ w.heap[b]? = some (.cells cur e (0, 0)) ∧ off + cap * sz ≤ cur.size ∧ ∀ j, j < n * sz → cur[off + j]? = xs[j]?)
theorem QR.of_own {w : World} {base : Nat} {e : TypeId} {sz n : Nat} {v : Value} {xs : List Value} (h : w.ownsRow base e sz v n xs) : QR w base e sz v n xs := by
  refine ⟨h.1, ?_⟩
  rcases h.2 with ⟨hv, h0⟩ | ⟨g, cap, cur, hv, hb, hg, hnc, hcm, hcs, ht⟩
  · subst h0 hv
    exact ⟨none, 0, rfl, Nat.le_refl _, by omega, fun _ => rfl, fun h => by omega⟩
  · refine ⟨_, cap, hv, hnc, by unfold maxLen at hcm; omega, (fun h => by cases h), fun _ => ⟨g, 0, cur, rfl, hb, hg, by omega, fun j hj => ?_⟩⟩
    rw [← ht, Nat.zero_add, List.getElem?_take, if_pos hj]
    simp
theorem QR.form {w : World} {base : Nat} {e : TypeId} {sz n : Nat} {v : Value} {xs : List Value} (h : QR w base e sz v n xs) : ∃ ao cap, v = .slice ao n cap ∧ n ≤ cap ∧ cap ≤ 9223372036854775807 := by
  obtain ⟨_, ao, cap, h1, h2, h3, _⟩ := h
  exact ⟨ao, cap, h1, h2, h3⟩
theorem QR.grown {w w' : World} {base : Nat} {e : TypeId} {sz n : Nat} {v : Value} {xs : List Value} {row : Option Nat} (h : QR w base e sz v n xs) (hg : w.grownBy w' row) (hne : ∀ k, v.ownBlock = some k → row ≠ some k) : QR w' base e sz v n xs := by
  obtain ⟨h1, ao, cap, rfl, h3, h4, h5, h6⟩ := h
  refine ⟨h1, ao, cap, rfl, h3, h4, h5, fun h0 => ?_⟩
  obtain ⟨b, off, cur, rfl, hb, hh, hs, hx⟩ := h6 h0
  have hlt : b < w.heap.size := by
    rcases Nat.lt_or_ge b w.heap.size with hlt | hge
    · exact hlt
    · rw [Array.getElem?_eq_none hge] at hh; cases hh
  exact ⟨b, off, cur, rfl, hb, (hg.block b hlt (fun e => hne b rfl e.symm)).trans hh, hs, hx⟩
theorem QR.below {w w' : World} {base : Nat} {e : TypeId} {sz n : Nat} {v : Value} {xs : List Value} (h : QR w base e sz v n xs) (hb : Below w.heap.size w w') : QR w' base e sz v n xs := h.grown (grown_below (g := none) hb) (fun k _ e => by cases e)
theorem QR.blk {w : World} {base : Nat} {e : TypeId} {sz n : Nat} {ao : Option Addr} {cap : Nat} {xs : List Value} (h : QR w base e sz (.slice ao n cap) n xs) (h0 : 0 < cap) : ∃ b off, ao = some ⟨b, off, none⟩ ∧ base ≤ b ∧ b < w.heap.size ∧ (∀ j u, xs[j]? = some u → w.cell? ⟨b, off + j, none⟩ = some u) ∧ (∀ o, w.frozen? ⟨b, o, none⟩ = false) ∧ ∀ j, j < cap * sz → (w.cell? ⟨b, off + j, none⟩).isSome = true := by
  obtain ⟨h1, ao', cap', hv, h3, h4, h5, h6⟩ := h
  injection hv with e1 _ e2
  subst e1 e2
  obtain ⟨b, off, cur, rfl, hb, hh, hs, hx⟩ := h6 h0
  have hlt : b < w.heap.size := by
    rcases Nat.lt_or_ge b w.heap.size with hlt | hge
    · exact hlt
    · rw [Array.getElem?_eq_none hge] at hh; cases hh
  refine ⟨b, off, rfl, hb, hlt, fun j u hj => ?_, fun o => Go.frozen_of_row w b o cur e hh, fun j hj => ?_⟩
  · have hj' : j < n * sz := by
      rcases Nat.lt_or_ge j (n * sz) with hh | hh
      · exact hh
      · rw [List.getElem?_eq_none (by omega)] at hj; cases hj
    rw [Go.cell_of_row w b (off + j) cur e (0, 0) hh, hx j hj', hj]
  · rw [Go.cell_of_row w b (off + j) cur e (0, 0) hh, Array.getElem?_eq_getElem (by omega)]
    rfl
/-- the first element is cut off -/
theorem QR.tail {w : World} {base : Nat} {e : TypeId} {sz n cap : Nat} {b off : Nat} {xs : List Value} (h : QR w base e sz (.slice (some ⟨b, off, none⟩) (n + 1) cap) (n + 1) xs) (A : Option Addr) (hA : A = if cap = 1 then some ⟨b, off, none⟩ else some ⟨b, off + sz, none⟩) : QR w base e sz (.slice A n (cap - 1)) n (xs.drop sz) := by
  obtain ⟨h1, ao, cap', hv, h3, h4, h5, h6⟩ := h
  injection hv with e1 _ e2
  subst e1 e2
  obtain ⟨b', off', cur, hab, hb, hh, hs, hx⟩ := h6 (by omega)
  injection hab with hab
  injection hab with e1 e2
  subst e1 e2
  refine ⟨by rw [List.length_drop, h1, Nat.succ_mul]; omega, A, cap - 1, rfl, by omega, by omega, (fun hn => by rw [hA] at hn; split at hn <;> cases hn), fun h0 => ?_⟩
  rw [if_neg (by omega)] at hA
  have hm : cap * sz = (cap - 1) * sz + sz := by
    conv => lhs; rw [show cap = (cap - 1) + 1 by omega]
    rw [Nat.succ_mul]
  refine ⟨b, off + sz, cur, hA, hb, hh, by omega, fun j hj => ?_⟩
  rw [List.getElem?_drop, Nat.add_assoc, hx (sz + j) (by rw [Nat.succ_mul]; omega)]
/-- one element more -/
theorem wpList_append_q {P : Program} {ops : Array Oper} {rest : List Oper} {o : Oper} {a : Act} {w : World} {Q : Exit → Act → World → Prop} (hgd : o.guard = none) (s x : Operand) (t : TypeId)
    (ho : o.op = .call { callee := .builtin .append, args := #[s, x], argTypes := #[t, t] }) (base : Nat) (e : TypeId) (i : TypeInfo) (z : Value) (sz bytes : Nat) (ht : P.underlying t = some (.slice e)) (hi : P.info? e = some i) (hz : i.zero = some z)
    (hsize : i.size = sz) (hby : i.bytes = bytes) (hzs : z.cells.size = sz) (hsz : 0 < sz) (v : Value) (n : Nat) (xs : List Value) (hs : a.eval s = v) (hq : QR w base e sz v n xs) (b : Nat) (news : List Value) (hx : a.eval x = .slice (some ⟨b, 0, none⟩) 1 1)
    (hl : news.length = sz) (hnews : ∀ j u, news[j]? = some u → w.cell? ((⟨b, 0, none⟩ : Addr).add j) = some u) (h1 : ∀ u ∈ news, u.oneCell' = true) (h63 : n + 1 ≤ maxLen) (hbytes : (n + 1) * bytes ≤ 140737488355328) (hbase : base ≤ w.heap.size)
    (h : ∀ v' w', QR w' base e sz v' (n + 1) (xs ++ news) → w.grownBy w' v.ownBlock → (v'.ownBlock = v.ownBlock ∨ ∃ g, v'.ownBlock = some g ∧ w.heap.size ≤ g) → wpList P ops Q rest (a.put o.dst v') w') : wpList P ops Q (o :: rest) a w := by
  have hq0 := hq
  obtain ⟨hxl, ao, cap, rfl, h3, h4, h5, h6⟩ := hq
  by_cases hroom : n + 1 ≤ cap
  · obtain ⟨g, off, rfl, hgb, hlt, hcell, hfr, hsp⟩ := hq0.blk (by omega)
    have hm : (n + 1) * sz ≤ cap * sz := Nat.mul_le_mul_right _ hroom
    rw [Nat.succ_mul] at hm
    refine wpList_append_arg w hgd s x t ho e i z sz bytes ht hi hz hsize hby hzs hsz g off n cap xs hs hxl hcell ⟨b, 0, none⟩ 1 1 news hx (by rw [hl, Nat.one_mul]) hnews h1 (fun _ j hj => ⟨by rw [Nat.add_assoc]; exact hsp _ (by omega), hfr _⟩) h63 hbytes (fun _ => ?_) (fun hh => absurd hroom (by omega))
    obtain ⟨b', off', cur, hab, hb, hh, hss, hxx⟩ := h6 (by omega)
    injection hab with hab
    injection hab with e1 e2
    subst e1 e2
    have hblk : (w.setCells g (off + n * sz) news).heap[g]? = some (.cells (setRun cur (off + n * sz) news) e (0, 0)) := heap_setCells_run w g e news (off + n * sz) cur hh
    refine h _ _ ⟨by rw [List.length_append, hxl, hl, Nat.succ_mul], some ⟨g, off, none⟩, cap, rfl, hroom, h4, (fun hn => by cases hn), fun _ => ⟨g, off, _, rfl, hb, hblk, by rw [setRun_size]; exact hss, fun j hj => ?_⟩⟩ (grown_setCellsQ w g news _) (.inl rfl)
    rw [setRun_get _ _ _ (by omega)]
    by_cases hjn : j < n * sz
    · rw [if_neg (by omega), List.getElem?_append_left (by omega), hxx j hjn]
    · rw [Nat.succ_mul] at hj
      rw [if_pos (by omega), List.getElem?_append_right (by omega), hxl]
      congr 1
      omega
  · refine wpList_append_grows w hgd s x t ho e i z sz bytes ht hi hz hsize hby hzs hsz ao n cap xs hs (fun hn => ⟨by have := h5 hn; omega, h5 hn⟩) hxl (fun bb hbb j u hj => ?_) ⟨b, 0, none⟩ 1 1 news hx (by rw [hl, Nat.one_mul]) hnews h1 (by omega) h63 hbytes (fun v' w' hown hg => ?_)
    · have h0 : 0 < cap := by
        rcases Nat.eq_zero_or_pos n with hn0 | hn0
        · subst hn0
          rw [List.getElem?_eq_none (by omega)] at hj; cases hj
        · omega
      obtain ⟨g, off, hab, _, _, hcell, _, _⟩ := hq0.blk h0
      rw [hbb] at hab
      injection hab with hab
      subst hab
      rw [Addr.add_lit]
      exact hcell j u hj
    · have hq' := QR.of_own (own_mono hown hbase)
      refine h v' w' hq' ⟨hg.os, hg.tape, hg.output, hg.size, fun k hk _ => hg.block k hk (by simp)⟩ ?_
      obtain ⟨A', c', hv', _⟩ := own_any hown
      cases hA : v'.ownBlock with
      | none =>
        rcases hown.2 with ⟨_, h0⟩ | ⟨g, _, _, hv, _⟩
        · omega
        · rw [hv] at hA; cases hA
      | some g => exact .inr ⟨g, rfl, (hown.lt g hA).1⟩
end Go.Proofs.Ytkdbnkkdohkhjaa
namespace Go.Proofs.Ytkdbnkkdohkhjaa
open Go.RowKit
set_option linter.unusedVariables false
/-- one element more, as a step of a region that draws -/
theorem step_append_q {P : Program} {ops : Array Oper} {o : Oper} {a : Act} {w : World} {K : Act → World → Prop} {Q : Exit → Act → World → Prop} {E : Prop} (hgd : o.guard = none) (s x : Operand) (t : TypeId)
    (ho : o.op = .call { callee := .builtin .append, args := #[s, x], argTypes := #[t, t] }) (base : Nat) (e : TypeId) (i : TypeInfo) (z : Value) (sz bytes : Nat) (ht : P.underlying t = some (.slice e)) (hi : P.info? e = some i) (hz : i.zero = some z)
    (hsize : i.size = sz) (hby : i.bytes = bytes) (hzs : z.cells.size = sz) (hsz : 0 < sz) (v : Value) (n : Nat) (xs : List Value) (hs : a.eval s = v) (hq : QR w base e sz v n xs) (b : Nat) (news : List Value) (hx : a.eval x = .slice (some ⟨b, 0, none⟩) 1 1)
    (hl : news.length = sz) (hnews : ∀ j u, news[j]? = some u → w.cell? ((⟨b, 0, none⟩ : Addr).add j) = some u) (h1 : ∀ u ∈ news, u.oneCell' = true) (h63 : n + 1 ≤ maxLen) (hbytes : (n + 1) * bytes ≤ 140737488355328) (hbase : base ≤ w.heap.size)
    (h : ∀ v' w', QR w' base e sz v' (n + 1) (xs ++ news) → w.grownBy w' v.ownBlock → (v'.ownBlock = v.ownBlock ∨ ∃ g, v'.ownBlock = some g ∧ w.heap.size ≤ g ∧ g < w'.heap.size) → K (a.put o.dst v') w') :
    if Region.wanted o (yielded ops a.tmps) = true then Oper.wp P o a w K Q else E := by
  have hq0 := hq
  obtain ⟨hxl, ao, cap, rfl, h3, h4, h5, h6⟩ := hq
  by_cases hroom : n + 1 ≤ cap
  · obtain ⟨g, off, rfl, hgb, hlt, hcell, hfr, hsp⟩ := hq0.blk (by omega)
    have hm : (n + 1) * sz ≤ cap * sz := Nat.mul_le_mul_right _ hroom
    rw [Nat.succ_mul] at hm
    refine step_append_room hgd s x t ho e i sz ht hi hsize g off n cap hs ⟨b, 0, none⟩ 1 1 news hx (by rw [hl, Nat.one_mul]) hnews h1 hroom (fun j hj => ⟨by rw [Nat.add_assoc]; exact hsp _ (by omega), hfr _⟩) ?_
    obtain ⟨b', off', cur, hab, hb, hh, hss, hxx⟩ := h6 (by omega)
    injection hab with hab
    injection hab with e1 e2
    subst e1 e2
    have hblk : (w.setCells g (off + n * sz) news).heap[g]? = some (.cells (setRun cur (off + n * sz) news) e (0, 0)) := heap_setCells_run w g e news (off + n * sz) cur hh
    refine h _ _ ⟨by rw [List.length_append, hxl, hl, Nat.succ_mul], some ⟨g, off, none⟩, cap, rfl, hroom, h4, (fun hn => by cases hn), fun _ => ⟨g, off, _, rfl, hb, hblk, by rw [setRun_size]; exact hss, fun j hj => ?_⟩⟩ (grown_setCellsQ w g news _) (.inl rfl)
    rw [setRun_get _ _ _ (by omega)]
    by_cases hjn : j < n * sz
    · rw [if_neg (by omega), List.getElem?_append_left (by omega), hxx j hjn]
    · rw [Nat.succ_mul] at hj
      rw [if_pos (by omega), List.getElem?_append_right (by omega), hxl]
      congr 1
      omega
  · refine step_append_grows hgd s x t ho e i z sz bytes ht hi hz hsize hby hzs hsz ao n cap xs hs (fun hn => ⟨by have := h5 hn; omega, h5 hn⟩) hxl (fun bb hbb j u hj => ?_) ⟨b, 0, none⟩ 1 1 news hx (by rw [hl, Nat.one_mul]) hnews h1 (by omega) h63 hbytes (fun v' w' hown hg => ?_)
    · have h0 : 0 < cap := by
        rcases Nat.eq_zero_or_pos n with hn0 | hn0
        · subst hn0
          rw [List.getElem?_eq_none (by omega)] at hj; cases hj
        · omega
      obtain ⟨g, off, hab, _, _, hcell, _, _⟩ := hq0.blk h0
      rw [hbb] at hab
      injection hab with hab
      subst hab
      rw [Addr.add_lit]
      exact hcell j u hj
    · have hq' := QR.of_own (own_mono hown hbase)
      refine h v' w' hq' ⟨hg.os, hg.tape, hg.output, hg.size, fun k hk _ => hg.block k hk (by simp)⟩ ?_
      obtain ⟨A', c', hv', _⟩ := own_any hown
      cases hA : v'.ownBlock with
      | none =>
        rcases hown.2 with ⟨_, h0⟩ | ⟨g, _, _, hv, _⟩
        · omega
        · rw [hv] at hA; cases hA
      | some g => exact .inr ⟨g, rfl, (hown.lt g hA).1, (hown.lt g hA).2⟩
end Go.Proofs.Ytkdbnkkdohkhjaa
namespace Go.Proofs.Ytkdbnkkdohkhjaa
open Go.RowKit
set_option linter.unusedVariables false
theorem sizeUs (w : World) : (sizeOf (Try.prog.elem 22)).run Try.prog w = .ok 1 w := by kernel_rfl
theorem elemUs : Try.prog.underlying 22 = some (.slice (Try.prog.elem 22)) := by kernel_rfl
/-- h[a:b] -/
theorem cutu_mid (A : Option Addr) (c : Nat) (l : List Nat) (w0 : World) (hS : Su w0 (.slice A l.length c) l) (a b : Nat) (hab : a ≤ b) (hb : b ≤ l.length) :
    ∃ XA, (∀ w, (Instr.sliceAt 22 (.slice A l.length c) (some (.int .i64 (a : Int))) (some (.int .i64 (b : Int))) none).run Try.prog w = .ok (.slice XA (b - a) (c - a)) w) ∧
      Su w0 (.slice XA ((l.drop a).take (b - a)).length (c - a)) ((l.drop a).take (b - a)) := by
  obtain ⟨A0, c0, e, h1, h2, h3, h4⟩ := hS
  injection e with e1 _ e3
  subst e1 e3
  have hl : ((l.drop a).take (b - a)).length = b - a := by simp; omega
  refine ⟨if c = a then A else A.map (·.add (a * 1)), fun w => ?_, ?_⟩
  · rw [run_sliceAt_slice _ _ _ _ _ _ elemUs, run_slice_lh _ _ _ _ _ elemUs _ _ _ _ (by omega) (by omega) (by omega), sizeUs]
    simp only [Result.andThen, sliced, Int.toNat_natCast]
  · refine ⟨_, _, rfl, by omega, by omega, fun hn => ?_, fun h0 => ?_⟩
    · rw [hl]
      by_cases e : c = a
      · omega
      · rw [if_neg e] at hn
        cases A with
        | none => have := h3 rfl; omega
        | some _ => cases hn
    · rw [hl] at h0
      obtain ⟨bk, off, rfl, hlt, hc⟩ := h4 (by omega)
      rw [if_neg (by omega)]
      refine ⟨bk, off + a, by simp [Go.WideShapes.add_plain], hlt, fun k hk j u hu => ?_⟩
      rw [hl] at hk
      match j, hu with
      | 0, hu =>
        have := hc (a + k) (by omega) 0 (.int .u64 ((nth l (a + k) : Nat) : Int)) rfl
        have e2 : nth ((l.drop a).take (b - a)) k = nth l (a + k) := by rw [nth_take _ hk, nth_drop]
        simp only [uC, List.getElem?_cons_zero, Option.some.injEq] at hu
        subst hu
        rw [e2]
        simpa [Nat.add_assoc] using this
/-- h[a:] -/
theorem cutu_from (A : Option Addr) (c : Nat) (l : List Nat) (w0 : World) (hS : Su w0 (.slice A l.length c) l) (a : Nat) (ha : a ≤ l.length) :
    ∃ XA, (∀ w, (Instr.sliceAt 22 (.slice A l.length c) (some (.int .i64 (a : Int))) none none).run Try.prog w = .ok (.slice XA (l.length - a) (c - a)) w) ∧
      Su w0 (.slice XA (l.drop a).length (c - a)) (l.drop a) := by
  obtain ⟨A0, c0, e, h1, h2, h3, h4⟩ := hS
  injection e with e1 _ e3
  subst e1 e3
  have hl : (l.drop a).length = l.length - a := by simp
  refine ⟨if c = a then A else A.map (·.add (a * 1)), fun w => ?_, ?_⟩
  · rw [run_sliceAt_slice _ _ _ _ _ _ elemUs, run_slice_l _ _ _ _ _ elemUs _ _ (by omega) (by omega), sizeUs]
    simp only [Result.andThen, sliced, Int.toNat_natCast]
  · refine ⟨_, _, rfl, by omega, by omega, fun hn => ?_, fun h0 => ?_⟩
    · rw [hl]
      by_cases e : c = a
      · omega
      · rw [if_neg e] at hn
        cases A with
        | none => have := h3 rfl; omega
        | some _ => cases hn
    · rw [hl] at h0
      obtain ⟨bk, off, rfl, hlt, hc⟩ := h4 (by omega)
      rw [if_neg (by omega)]
      refine ⟨bk, off + a, by simp [Go.WideShapes.add_plain], hlt, fun k hk j u hu => ?_⟩
      rw [hl] at hk
      match j, hu with
      | 0, hu =>
        have := hc (a + k) (by omega) 0 (.int .u64 ((nth l (a + k) : Nat) : Int)) rfl
        simp only [uC, List.getElem?_cons_zero, Option.some.injEq] at hu
        subst hu
        rw [nth_drop]
        simpa [Nat.add_assoc] using this
end Go.Proofs.Ytkdbnkkdohkhjaa
namespace Go.Proofs.Ytkdbnkkdohkhjaa
open Go.RowKit
set_option linter.unusedVariables false
/-- a row of words of the call's own, from some place on -/
def QW (w : World) (base : Nat) (v : Value) (l : List Nat) : Prop := QR w base 27 1 v l.length (encU l) ∧ ∀ k, v.ownBlock = some k → base ≤ k ∧ k < w.heap.size
theorem QW.nil (w : World) (base : Nat) : QW w base (.slice none 0 0) [] := ⟨⟨rfl, none, 0, rfl, Nat.le_refl _, by omega, fun _ => rfl, fun h => by omega⟩, fun k h => by cases h⟩
theorem QW.of_own {w : World} {base : Nat} {v : Value} {l : List Nat} (h : OwnU w base v l) : QW w base v l := ⟨QR.of_own h, h.blk⟩
theorem QW.grown {w w' : World} {base : Nat} {v : Value} {l : List Nat} {row : Option Nat} (h : QW w base v l) (hg : w.grownBy w' row) (hne : ∀ k, v.ownBlock = some k → row ≠ some k) : QW w' base v l := ⟨QR.grown h.1 hg hne, fun k hk => ⟨(h.2 k hk).1, Nat.lt_of_lt_of_le (h.2 k hk).2 hg.size⟩⟩
theorem QW.below {w w' : World} {base : Nat} {v : Value} {l : List Nat} (h : QW w base v l) (hb : Below w.heap.size w w') : QW w' base v l := ⟨QR.below h.1 hb, fun k hk => ⟨(h.2 k hk).1, Nat.lt_of_lt_of_le (h.2 k hk).2 hb.size⟩⟩
theorem QW.form {w : World} {base : Nat} {v : Value} {l : List Nat} (h : QW w base v l) : ∃ ao cap, v = .slice ao l.length cap ∧ l.length ≤ cap ∧ cap ≤ 9223372036854775807 := QR.form h.1
theorem QW.cell {w : World} {base : Nat} {ao : Option Addr} {cap n : Nat} {l : List Nat} (h : QW w base (.slice ao n cap) l) (h0 : 0 < l.length) : ∃ b off, ao = some ⟨b, off, none⟩ ∧ base ≤ b ∧ b < w.heap.size ∧ ∀ k, k < l.length → w.cell? ⟨b, off + k, none⟩ = some (.int .u64 ((nth l k : Nat) : Int)) := by
  obtain ⟨ao', cap', hv, hle, hm⟩ := h.form
  injection hv with e1 e2 e3
  subst e1 e2 e3
  have h' : QR w base 27 1 (.slice ao l.length cap) l.length (encU l) := h.1
  obtain ⟨b, off, rfl, hb, hlt, hcell, _, _⟩ := h'.blk (by omega)
  exact ⟨b, off, rfl, hb, hlt, fun k hk => hcell k _ (encU_get hk)⟩
/-- the first word, and the rest -/
theorem QW.head {w : World} {base : Nat} {ao : Option Addr} {cap n : Nat} {p : Nat} {l : List Nat} (h : QW w base (.slice ao n cap) (p :: l)) : ∃ b off, ao = some ⟨b, off, none⟩ ∧ base ≤ b ∧ b < w.heap.size ∧ w.cell? ⟨b, off, none⟩ = some (.int .u64 (p : Int)) ∧
    ∃ A, (∀ w', (Instr.sliceAt 22 (.slice ao n cap) (some (.int .i64 1)) none none).run Try.prog w' = .ok (.slice A l.length (cap - 1)) w') ∧ QW w base (.slice A l.length (cap - 1)) l ∧ (Value.slice A l.length (cap - 1)).ownBlock = some b := by
  have h' : QR w base 27 1 (.slice ao n cap) (p :: l).length (encU (p :: l)) := h.1
  obtain ⟨ao', cap', hv, hle, hm⟩ := h.form
  injection hv with e1 e2 e3
  subst e1 e2 e3
  have hc : 0 < cap := by simp at hle; omega
  obtain ⟨b, off, rfl, hb, hlt, hcell, _, _⟩ := h'.blk hc
  have hown : ∀ A : Option Addr, A = (if cap = 1 then some ⟨b, off, none⟩ else some ⟨b, off + 1, none⟩) → (Value.slice A l.length (cap - 1)).ownBlock = some b := fun A hA => by
    subst hA
    split <;> rfl
  refine ⟨b, off, rfl, hb, hlt, by simpa using hcell 0 _ rfl, if cap = 1 then some ⟨b, off, none⟩ else some ⟨b, off + 1, none⟩, fun w' => ?_, ⟨?_, ?_⟩, ?_⟩
  · rw [run_sliceAt_slice _ _ _ _ _ _ elemUs, run_slice_l _ _ _ _ _ elemUs _ _ (by omega) (by simp at hle ⊢; omega), sizeUs]
    simp only [Result.andThen, sliced]
    rfl
  · exact QR.tail h' _ rfl
  · intro k hk
    rw [hown _ rfl] at hk
    injection hk with hk
    subst hk
    exact ⟨hb, hlt⟩
  · exact hown _ rfl
/-- the last word, and those in front -/
theorem QW.last {w : World} {base : Nat} {ao : Option Addr} {cap n : Nat} {p : Nat} {l : List Nat} (h : QW w base (.slice ao n cap) (l ++ [p])) : ∃ b off, ao = some ⟨b, off, none⟩ ∧ base ≤ b ∧ b < w.heap.size ∧ w.cell? ⟨b, off + l.length, none⟩ = some (.int .u64 (p : Int)) ∧
    QW w base (.slice ao l.length cap) l ∧ ∀ w', (Instr.sliceAt 22 (.slice ao n cap) none (some (.int .i64 (l.length : Int))) none).run Try.prog w' = .ok (.slice ao l.length cap) w' := by
  have h' : QR w base 27 1 (.slice ao n cap) (l ++ [p]).length (encU (l ++ [p])) := h.1
  obtain ⟨ao', cap', hv, hle, hm⟩ := h.form
  injection hv with e1 e2 e3
  subst e1 e2 e3
  have hl : (l ++ [p]).length = l.length + 1 := by simp
  have hc : 0 < cap := by omega
  obtain ⟨b, off, rfl, hb, hlt, hcell, _, _⟩ := h'.blk hc
  refine ⟨b, off, rfl, hb, hlt, hcell l.length _ (by simp [encU]), ⟨?_, fun k hk => h.2 k hk⟩, fun w' => ?_⟩
  rotate_left
  · rw [run_sliceAt_slice _ _ _ _ _ _ elemUs, run_slice_h _ _ _ _ _ elemUs _ _ (by omega) (by omega), sizeUs]
    simp only [Result.andThen, sliced, Int.toNat_natCast]
    rw [if_neg (by omega)]
    simp [Go.WideShapes.add_plain]
  obtain ⟨h1, ao1, cap1, hv1, h3, h4, h5, h6⟩ := h'
  injection hv1 with e1 _ e3
  subst e1 e3
  refine ⟨by simp [encU], _, cap, rfl, by omega, h4, (fun hn => by cases hn), fun h0 => ?_⟩
  obtain ⟨b', off', cur, hab, hb', hh, hs, hx⟩ := h6 h0
  refine ⟨b', off', cur, hab, hb', hh, hs, fun j hj => ?_⟩
  rw [hx j (by rw [hl]; omega)]
  rw [Nat.mul_one] at hj
  unfold encU
  rw [List.map_append, List.getElem?_append_left (by simpa using hj)]
set_option maxRecDepth 100000 in
theorem run_append_qw (w : World) (t ty : TypeId) (ht : Try.prog.underlying t = some (.slice 27)) (base : Nat) (v : Value) (l : List Nat) (hq : QW w base v l) (u : Value) (m : List Nat) (hS : Su w u m)
    (hl : l.length + m.length ≤ 10000000) (hbase : base ≤ w.heap.size) :
    ∃ v' w', (Builtin.append_ #[t, t] ty #[v, u]).run Try.prog w = .ok v' w' ∧ QW w' base v' (l ++ m) ∧ w.grownBy w' v.ownBlock ∧ (v'.ownBlock = v.ownBlock ∨ ∃ g, v'.ownBlock = some g ∧ w.heap.size ≤ g) := by
  obtain ⟨i0, hi, hz0, hz1, hz2⟩ := info_parts infoU
  obtain ⟨A, c, rfl, hmc, _, hA, hR⟩ := hS
  have hq0 := hq.1
  obtain ⟨hxl, ao, cap, rfl, h3, h4, h5, h6⟩ := hq.1
  by_cases hm0 : m.length = 0
  · obtain rfl : m = [] := List.eq_nil_of_length_eq_zero hm0
    refine ⟨_, w, ?_, by rw [List.append_nil]; exact hq, grown_self _ _, .inl rfl⟩
    refine run_append_nothing w t t ty 27 i0 ht hi ao l.length cap h3 _ ?_
    cases A with
    | none => exact Src.ofNil w ht c
    | some ad => exact Src.ofSlice w ht ad 0 c [] (by simp) (fun j u hu => by simp at hu) (fun u hu => by cases hu)
  · obtain ⟨sb, so, rfl, hsb, hsc⟩ := hR (by omega)
    have hcells : ∀ j u, (encU m)[j]? = some u → w.cell? ((⟨sb, so, none⟩ : Addr).add j) = some u := by
      intro j u hu
      have hj : j < m.length := by
        rcases Nat.lt_or_ge j m.length with h | h
        · exact h
        · rw [List.getElem?_eq_none (by simpa [encU] using h)] at hu; cases hu
      have h1 := hsc j hj 0 _ rfl
      rw [Addr.add_lit]
      rw [encU_get hj] at hu
      injection hu with hu
      subst hu
      simpa using h1
    have hle : (encU m).length = m.length := by simp [encU]
    by_cases hroom : l.length + m.length ≤ cap
    · obtain ⟨g, off, rfl, hgb, hlt, hcell, hfr, hsp⟩ := hq0.blk (by omega)
      have hrun := run_append_room_cells (P := Try.prog) w t ty 27 i0 ht hi g off l.length cap ⟨sb, so, none⟩ m.length c (encU m) (by rw [hz1, hle]; omega) hcells (encU_one m) hroom
        (fun j hj => by rw [hz1, Nat.add_assoc]; exact hsp _ (by rw [hle] at hj; omega)) (fun j hj => hfr _)
      obtain ⟨b', off', cur, hab, hb, hh, hss, hxx⟩ := h6 (by omega)
      injection hab with hab
      injection hab with e1 e2
      subst e1 e2
      rw [hz1] at hrun
      have hblk := heap_setCells_run w g 27 (encU m) (off + l.length * 1) cur hh
      refine ⟨_, _, hrun, ⟨⟨by simp [encU], some ⟨g, off, none⟩, cap, by rw [List.length_append], by rw [List.length_append]; exact hroom, h4, (fun hn => by cases hn), fun _ => ⟨g, off, _, rfl, hb, hblk, by rw [setRun_size]; exact hss, fun j hj => ?_⟩⟩, fun k hk => ?_⟩, grown_setCellsQ w g _ _, .inl rfl⟩
      · rw [setRun_get _ _ _ (by rw [hle]; omega)]
        rw [List.length_append] at hj
        have he : encU (l ++ m) = encU l ++ encU m := by simp [encU]
        have hl2 : (encU l).length = l.length := by simp [encU]
        by_cases hjn : j < l.length
        · rw [if_neg (by omega), he, List.getElem?_append_left (by omega), hxx j (by omega)]
        · rw [if_pos (by rw [hle]; omega), he, List.getElem?_append_right (by omega), hl2]
          congr 1
          omega
      · injection hk with hk
        subst hk
        exact ⟨hgb, Nat.lt_of_lt_of_le hlt (grown_setCellsQ w g (encU m) (off + l.length * 1)).size⟩
    · have fin : ∀ (v' : Value) (w' : World), w'.ownsRow w.heap.size 27 1 v' (l.length + m.length) (encU l ++ encU m) → w.grownBy w' none → QW w' base v' (l ++ m) ∧ w.grownBy w' (Value.slice ao l.length cap).ownBlock ∧ (v'.ownBlock = (Value.slice ao l.length cap).ownBlock ∨ ∃ g, v'.ownBlock = some g ∧ w.heap.size ≤ g) := by
        intro v' w' hown hg
        have h1 : OwnU w' base v' (l ++ m) := by
          unfold OwnU
          rw [List.length_append, show encU (l ++ m) = encU l ++ encU m by simp [encU]]
          exact own_mono hown hbase
        refine ⟨QW.of_own h1, ⟨hg.os, hg.tape, hg.output, hg.size, fun k hk _ => hg.block k hk (by simp)⟩, ?_⟩
        cases hA : v'.ownBlock with
        | none =>
          rcases hown.2 with ⟨_, h0⟩ | ⟨g, _, _, hv, _⟩
          · omega
          · rw [hv] at hA; cases hA
        | some g => exact .inr ⟨g, rfl, (hown.lt g hA).1⟩
      cases ao with
      | some ad =>
        have holds : ∀ j u, (encU l)[j]? = some u → w.cell? (ad.add j) = some u := by
          intro j u hj
          have hj' : j < l.length := by
            rcases Nat.lt_or_ge j l.length with h | h
            · exact h
            · rw [List.getElem?_eq_none (by simpa [encU] using h)] at hj; cases hj
          obtain ⟨g, off, hab, _, _, hcell, _, _⟩ := hq0.blk (by omega)
          injection hab with hab
          subst hab
          rw [Addr.add_lit]
          exact hcell j u hj
        obtain ⟨v', w', hrun, r1, r2⟩ := run_append_arg_grows (P := Try.prog) w t ty 27 i0 _ 1 8 ht hi hz0 hz1 hz2 rfl (by omega) ad l.length cap (encU l) (by simp [encU]) holds ⟨sb, so, none⟩ m.length c (encU m) (by simp [encU]) hcells (by omega) (by unfold maxLen; omega) (by omega)
        obtain ⟨k1, k2, k3⟩ := fin v' w' r1 r2
        exact ⟨v', w', hrun, k1, k2, k3⟩
      | none =>
        have hc0 := h5 rfl
        have hl0 : l = [] := List.eq_nil_of_length_eq_zero (by omega)
        subst hl0
        subst hc0
        obtain ⟨v', w', hrun, r1, r2, _⟩ := run_append_own (P := Try.prog) w w.heap.size t ty 27 i0 _ 1 8 ht hi hz0 hz1 hz2 rfl (by omega) (.slice none 0 0) 0 [] (World.ownsRow_nil w _ 27 1) ⟨sb, so, none⟩ m.length c (encU m) (by simp [encU]) hcells (encU_one m) (by unfold maxLen; simp at hl; omega) (by simp at hl; omega) (Nat.le_refl _)
        obtain ⟨k1, k2, k3⟩ := fin v' w' r1 r2
        exact ⟨v', w', hrun, k1, k2, k3⟩
set_option maxRecDepth 100000 in
theorem wpList_append_qw {ops : Array Oper} {rest : List Oper} {o : Oper} {a : Act} {w : World} {Q : Exit → Act → World → Prop} (hgd : o.guard = none) (s x : Operand) (t t' : TypeId)
    (ho : o.op = .call { callee := .builtin .append, args := #[s, x], argTypes := #[t, t'] }) (ht : Try.prog.underlying t = some (.slice 27)) (ht' : Try.prog.underlying t' = some (.slice 27)) (base : Nat) (v : Value) (l : List Nat) (hs : a.eval s = v) (hq : QW w base v l)
    (u : Value) (m : List Nat) (hx : a.eval x = u) (hS : Su w u m) (hl : l.length + m.length ≤ 10000000) (hbase : base ≤ w.heap.size)
    (h : ∀ v' w', QW w' base v' (l ++ m) → w.grownBy w' v.ownBlock → (v'.ownBlock = v.ownBlock ∨ ∃ g, v'.ownBlock = some g ∧ w.heap.size ≤ g) → wpList Try.prog ops Q rest (a.put o.dst v') w') :
    wpList Try.prog ops Q (o :: rest) a w := by
  obtain ⟨v', w', hrun, h2, h3, h4⟩ := run_append_qw w t o.type ht base v l hq u m hS hl hbase
  obtain ⟨A0, c0, rfl, _⟩ := hq.form
  refine wpList_plain hgd fun _ hK => ?_
  unfold Oper.wp execOp
  simp only [ho, resolve, invoke, builtin, Sem.run_bind, Sem.run_pure, Result.andThen_ok, List.map_toArray, List.map_cons, List.map_nil, hs, hx, append_types t t' o.type _ _ ht ht' A0 _ c0 u w, hrun]
  exact hK _ _ (h v' w' h2 h3 h4)
end Go.Proofs.Ytkdbnkkdohkhjaa
namespace Go.Proofs.Ytkdbnkkdohkhjaa
open Go.RowKit
set_option linter.unusedVariables false
/-- an index whose rows lie below T -/
structure IdxT (w : World) (base T mb : Nat) (l : List Ob) (C : Nat → List Value) : Prop where
  idx : IdxW w base mb l C
  mt : mb < T
  top : ∀ i o pA pc, l[i]? = some o → C i = obC (posO l i) o pA pc → ∀ k, (Value.slice pA o.parts.length pc).ownBlock = some k → k < T
theorem obC_inj {a : Nat} {o : Ob} {pA qA : Option Addr} {pc qc : Nat} (h : obC a o pA pc = obC a o qA qc) : pA = qA ∧ pc = qc := by
  unfold obC at h
  injection h with _ h
  injection h with _ h
  injection h with _ h
  injection h with _ h
  injection h with h _
  injection h with h1 h2 h3
  exact ⟨h1, h3⟩
theorem IdxT.of {w : World} {base mb : Nat} {l : List Ob} {C : Nat → List Value} (h : IdxW w base mb l C) : IdxT w base w.heap.size mb l C :=
  ⟨h, h.m.lt, fun i o pA pc ho hC k hk => by
    obtain ⟨qA, qc, h1, h2⟩ := h.each i o ho
    rw [hC] at h1
    obtain ⟨e1, e2⟩ := obC_inj h1
    subst e1 e2
    exact (h2.blk k hk).2⟩
theorem IdxT.grown {w w' : World} {base T mb : Nat} {l : List Ob} {C : Nat → List Value} {row : Option Nat} (h : IdxT w base T mb l C) (hg : w.grownBy w' row) (hb : ∀ k, row = some k → T ≤ k) : IdxT w' base T mb l C :=
  ⟨⟨h.idx.m.kept hg (fun e => by have := hb mb e.symm; have := h.mt; omega), fun i o ho => by
    obtain ⟨pA, pc, h1, h2⟩ := h.idx.each i o ho
    exact ⟨pA, pc, h1, h2.grown hg (fun k hk e => by have h3 := h.top i o pA pc ho h1 k hk; have h4 := hb k e; omega)⟩, h.idx.len⟩, h.mt, h.top⟩
theorem IdxT.below {w w' : World} {base T mb : Nat} {l : List Ob} {C : Nat → List Value} (h : IdxT w base T mb l C) (hb : Below w.heap.size w w') : IdxT w' base T mb l C := h.grown (grown_below (g := none) hb) (by simp)
/-- a word that the search follows -/
def Hit (fr : Int) (p : Nat) : Prop := tagOf (p : Int) = 4 ∧ fr ≤ ((atOf p : Nat) : Int)
structure RK (l : List Ob) (fr : Int) (ws K q : List Nat) : Prop where
  nodup : K.Nodup
  lt : ∀ k ∈ K, k < l.length ∧ fr ≤ ((posO l k : Nat) : Int)
  closed : ∀ k ∈ K, ∀ o, l[k]? = some o → ∀ p ∈ o.parts, Hit fr p → atOf p ∈ K.map (posO l) ∨ p ∈ q
  start : ∀ p ∈ ws, Hit fr p → atOf p ∈ K.map (posO l) ∨ p ∈ q
  ok : ∀ p ∈ q, wordOk l p ∧ p < 18446744073709551616
  least : ∀ D : Nat → Prop, (∀ p ∈ ws, Hit fr p → D (atOf p)) → (∀ k o, l[k]? = some o → D (posO l k) → ∀ p ∈ o.parts, Hit fr p → D (atOf p)) → (∀ k ∈ K, D (posO l k)) ∧ ∀ p ∈ q, Hit fr p → D (atOf p)
theorem RK.init {l : List Ob} {fr : Int} {ws : List Nat} (h : ∀ p ∈ ws, wordOk l p ∧ p < 18446744073709551616) : RK l fr ws [] ws :=
  ⟨List.nodup_nil, (fun k h => by cases h), (fun k h => by cases h), fun p hp _ => .inr hp, h, fun D h1 h2 => ⟨(fun k h => by cases h), h1⟩⟩
theorem RK.drop {l : List Ob} {fr : Int} {ws K rest : List Nat} {p : Nat} (H : RK l fr ws K (p :: rest)) (hp : Hit fr p → atOf p ∈ K.map (posO l)) : RK l fr ws K rest := by
  refine ⟨H.nodup, H.lt, fun k hk o ho x hx hh => ?_, fun x hx hh => ?_, fun x hx => H.ok x (List.mem_cons_of_mem _ hx), fun D h1 h2 => ⟨(H.least D h1 h2).1, fun x hx => (H.least D h1 h2).2 x (List.mem_cons_of_mem _ hx)⟩⟩
  · rcases H.closed k hk o ho x hx hh with h | h
    · exact .inl h
    · rcases List.mem_cons.1 h with rfl | h
      · exact .inl (hp hh)
      · exact .inr h
  · rcases H.start x hx hh with h | h
    · exact .inl h
    · rcases List.mem_cons.1 h with rfl | h
      · exact .inl (hp hh)
      · exact .inr h
theorem RK.new {l : List Ob} {fr : Int} {ws K rest : List Nat} {p k : Nat} {o : Ob} (H : RK l fr ws K (p :: rest)) (hp : Hit fr p) (hk : l[k]? = some o) (hpos : posO l k = atOf p) (hn : atOf p ∉ K.map (posO l)) (hok : ∀ x ∈ o.parts, wordOk l x ∧ x < 18446744073709551616) : RK l fr ws (K ++ [k]) (rest ++ o.parts) := by
  have hkl := (List.getElem?_eq_some_iff.1 hk).1
  have hmem : ∀ a, a ∈ K.map (posO l) → a ∈ (K ++ [k]).map (posO l) := fun a ha => by rw [List.map_append]; exact List.mem_append_left _ ha
  have hself : atOf p ∈ (K ++ [k]).map (posO l) := by rw [List.map_append, ← hpos]; exact List.mem_append_right _ (by simp)
  refine ⟨?_, fun j hj => ?_, fun j hj oj hoj x hx hh => ?_, fun x hx hh => ?_, fun x hx => ?_, fun D h1 h2 => ?_⟩
  · rw [List.nodup_append]
    refine ⟨H.nodup, by simp, fun a ha b hb e => ?_⟩
    obtain rfl : b = k := by simpa using hb
    exact hn (List.mem_map.2 ⟨a, ha, by rw [e, hpos]⟩)
  · rcases List.mem_append.1 hj with hj | hj
    · exact H.lt j hj
    · obtain rfl : j = k := by simpa using hj
      exact ⟨hkl, by rw [hpos]; exact hp.2⟩
  · rcases List.mem_append.1 hj with hj | hj
    · rcases H.closed j hj oj hoj x hx hh with h | h
      · exact .inl (hmem _ h)
      · rcases List.mem_cons.1 h with rfl | h
        · exact .inl hself
        · exact .inr (List.mem_append_left _ h)
    · obtain rfl : j = k := by simpa using hj
      rw [hk] at hoj
      injection hoj with hoj
      subst hoj
      exact .inr (List.mem_append_right _ hx)
  · rcases H.start x hx hh with h | h
    · exact .inl (hmem _ h)
    · rcases List.mem_cons.1 h with rfl | h
      · exact .inl hself
      · exact .inr (List.mem_append_left _ h)
  · rcases List.mem_append.1 hx with hx | hx
    · exact H.ok x (List.mem_cons_of_mem _ hx)
    · exact hok x hx
  · obtain ⟨g1, g2⟩ := H.least D h1 h2
    have hD : D (posO l k) := by rw [hpos]; exact g2 p List.mem_cons_self hp
    refine ⟨fun j hj => ?_, fun x hx hh => ?_⟩
    · rcases List.mem_append.1 hj with hj | hj
      · exact g1 j hj
      · obtain rfl : j = k := by simpa using hj
        exact hD
    · rcases List.mem_append.1 hx with hx | hx
      · exact g2 x (List.mem_cons_of_mem _ hx) hh
      · exact h2 k o hk hD x hx hh
theorem RK.len {l : List Ob} {fr : Int} {ws K q : List Nat} (H : RK l fr ws K q) : K.length ≤ l.length := by
  have := nodup_le (m := List.range l.length) H.nodup (fun x hx => List.mem_range.2 (H.lt x hx).1)
  simpa using this
/-- the set of the places that were seen -/
def setP (l : List Ob) (K : List Nat) : Int → Bool := fun x => decide (0 ≤ x ∧ x.toNat ∈ K.map (posO l))
theorem setP_at (l : List Ob) (K : List Nat) (a : Nat) : setP l K (a : Int) = decide (a ∈ K.map (posO l)) := by
  unfold setP
  simp only [Int.toNat_natCast, Int.natCast_nonneg, true_and]
theorem setP_snoc (l : List Ob) (K : List Nat) (k : Nat) : setP l (K ++ [k]) = fun y => if y = ((posO l k : Nat) : Int) then true else setP l K y := by
  funext y
  unfold setP
  by_cases e : y = ((posO l k : Nat) : Int)
  · rw [if_pos e, e]; simp
  · rw [if_neg e]
    by_cases h0 : 0 ≤ y
    · have : y.toNat ≠ posO l k := by omega
      simp [h0, this]
    · simp [h0]
/-- the rows of the objects that were seen -/
def outC (C : Nat → List Value) (K : List Nat) : Nat → List Value := fun i => C (K.getD i 0)
theorem flat_outC (C : Nat → List Value) (K : List Nat) (k : Nat) : flatC (outC C (K ++ [k])) (K ++ [k]).length = flatC (outC C K) K.length ++ C k := by
  rw [List.length_append]
  show flatC (outC C (K ++ [k])) (K.length + 1) = _
  rw [flatC]
  congr 1
  · refine flatC_congr fun i hi => ?_
    simp [outC, List.getD, List.getElem?_append_left hi]
  · simp [outC, List.getD]
structure RchY (l : List Ob) (C : Nat → List Value) (fr : Int) (ws : List Nat) (base T mb sb B : Nat) (w wr : World) (qv ov : Value) (row : Option Nat) (K q : List Nat) : Prop where
  inv : RK l fr ws K q
  idx : IdxT wr base T mb l C
  qu : QW wr T qv q
  m : OwnMS wr sb K.length (setP l K)
  out : wr.ownsRow B 33 5 ov K.length (flatC (outC C K) K.length)
  qrow : ∀ k, qv.ownBlock = some k → row = some k ∨ B ≤ k
  ne : ∀ k, qv.ownBlock = some k → ov.ownBlock ≠ some k
  gr : w.grownBy wr row
  hs : B ≤ wr.heap.size
  few : q.length ≤ ws.length + 400 * K.length
theorem IdxT.at {w : World} {base T mb k : Nat} {l : List Ob} {C : Nat → List Value} {o : Ob} {pA : Option Addr} {pc : Nat} (h : IdxT w base T mb l C) (hk : l[k]? = some o) (hC : C k = obC (posO l k) o pA pc) (hw : Wf ((posO l k : Nat) : Int)) :
    (Instr.lookup 78 (.map (some mb)) (.int .i64 ((posO l k : Nat) : Int)) false).run Try.prog w = .ok (.agg #[.int .i64 ((posO l k : Nat) : Int), .int .i64 o.kind, .int .i64 o.num, .string o.text, .slice pA o.parts.length pc]) w ∧ OwnU w base (.slice pA o.parts.length pc) o.parts := by
  have h1 := h.idx.m.look hw
  rw [idxG_at (Nat.le_refl _) (List.getElem?_eq_some_iff.1 hk).1, hC] at h1
  obtain ⟨qA, qc, g1, g2⟩ := h.idx.each k o hk
  rw [hC] at g1
  obtain ⟨e1, e2⟩ := obC_inj g1
  subst e1 e2
  exact ⟨h1, g2⟩
theorem field4 (v0 v1 v2 v3 : Value) (A : Option Addr) (n c : Nat) (w : World) : (Instr.field 33 (.agg #[v0, v1, v2, v3, .slice A n c]) 4).run Try.prog w = .ok (.slice A n c) w := by kernel_rfl
def lenY : Value → Nat
  | .slice _ n _ => n
  | _ => 0
def RchPost (l : List Ob) (C : Nat → List Value) (fr : Int) (ws : List Nat) (base T mb : Nat) (row : Option Nat) (w : World) (e : Ending) (w' : World) : Prop := ∃ K ov, RK l fr ws K [] ∧ e = .returned ov ∧ w'.ownsRow w.heap.size 33 5 ov K.length (flatC (outC C K) K.length) ∧ IdxT w' base T mb l C ∧ w.grownBy w' row
set_option maxHeartbeats 8000000 in
set_option maxRecDepth 100000 in
theorem reach_any (l : List Ob) (C : Nat → List Value) (fr : Int) (ws : List Nat) (base T mb : Nat) (A : Option Addr) (c : Nat) (w : World) (hI : IdxT w base T mb l C) (hT : T ≤ w.heap.size) (hq : QW w T (.slice A ws.length c) ws) (hok : ∀ p ∈ ws, wordOk l p ∧ p < 18446744073709551616) (hg : ∀ o ∈ l, GoodOb o) (hpt : ∀ (k : Nat) (o : Ob), l[k]? = some o → ∀ p ∈ o.parts, wordOk l p) (hl : l.length ≤ 4000) (hpos : ∀ k, posO l k ≤ 4000) (hws : ws.length ≤ 2000000) :
    Calls Try.prog 71 #[.map (some mb), .slice A ws.length c, .int .i64 fr] w (RchPost l C fr ws base T mb (Value.slice A ws.length c).ownBlock w) := by
  have HI := Lib.hid hI
  have HQ := Lib.hid hq
  have HOKW := Lib.hid hok
  have HGO := Lib.hid hg
  have HPT := Lib.hid hpt
  have HPOS := Lib.hid hpos
  have hmm := @run_makeMap Try.prog
  obtain ⟨row, hrow⟩ : ∃ row, (Value.slice A ws.length c).ownBlock = row := ⟨_, rfl⟩
  rw [hrow]
  obtain ⟨sb, hsb⟩ : ∃ sb, w.heap.size = sb := ⟨_, rfl⟩
  have HSB := Lib.hid hsb
  obtain ⟨i0, hi, hz0, hz1, hz2⟩ := info_parts infoOb
  have hA1 : Below w.heap.size w (w.alloc (.map #[] 0)) := (Below.refl _ _).alloc (Nat.le_refl _) _
  have HY0 := Lib.hid (show RchY l C fr ws base T mb sb (sb + 1) w (w.alloc (.map #[] 0)) (.slice A ws.length c) (.slice none 0 0) row [] ws from by
    refine ⟨RK.init HOKW.out, HI.out.below hA1, HQ.out.below hA1, ?_, World.ownsRow_nil _ _ _ _, fun k hk => .inl (by rw [← hrow]; exact hk), (fun k _ e => by cases e), grown_below hA1, by rw [← hsb]; simp, by simp⟩
    have h1 := OwnMS.made w
    rw [hsb] at h1
    have h2 : setP l [] = fun _ => false := by funext x; simp [setP]
    rw [h2]
    exact h1)
  have HROWT := Lib.hid (show ∀ k, row = some k → T ≤ k from fun k hk => (HQ.out.2 k (by rw [hrow]; exact hk)).1)
  have HROWLT := Lib.hid (show ∀ k, row = some k → k < sb from fun k hk => by have := (HQ.out.2 k (by rw [hrow]; exact hk)).2; omega)
  obtain ⟨N, hN⟩ : ∃ N, ws.length = N := ⟨_, rfl⟩
  have HN := Lib.hid hN
  rw [hN] at HY0 hws
  rw [hN]
  clear hI hq hok hg hpt hpos hrow hsb hA1 hN
  go_enter Try.func71, Try.ntmps71
  go_wp2_with fail
  rw [HSB.out]
  go_loopw [1, 7, 9, 10] (fun x1 x7 _ _ wx => ∃ (K q : List Nat) (Av oA : Option Addr) (cv oc : Nat), x1 = .slice Av q.length cv ∧ x7 = .slice oA K.length oc ∧ RchY l C fr ws base T mb sb (sb + 1) w wx (.slice Av q.length cv) (.slice oA K.length oc) row K q) (fun x1 _ _ _ wx => 1000 * (5000 - mapLen wx sb) + lenY x1)
  case atStart => exact ⟨[], ws, A, none, c, 0, by rw [HN.out], rfl, by rw [HN.out]; exact HY0.out⟩
  case round =>
    obtain ⟨K, q, Av, oA, cv, oc, rfl, rfl, hY⟩ := hrel
    have HY := Lib.hid hY
    clear hY HY0
    cases q with
    | nil =>
      go_wp2_with fail
      go_ret
      exact ⟨K, _, HY.out.inv, rfl, own_mono HY.out.out (by have := HSB.out; omega), HY.out.idx, HY.out.gr⟩
    | cons p rest =>
      obtain ⟨bQ, oQ, rfl, hbQ, hbQ2, c0, A2, hcut, hQ2, hown2⟩ := HY.out.qu.head
      obtain ⟨hwk, hp64⟩ := HY.out.inv.ok p List.mem_cons_self
      obtain ⟨r, hr⟩ : ∃ r, rest.length = r := ⟨_, rfl⟩
      have hcut1 : ∀ w', (Instr.sliceAt 22 (.slice (some ⟨bQ, oQ, none⟩) (r + 1) cv) (some (.int .i64 1)) none none).run Try.prog w' = .ok (.slice A2 r (cv - 1)) w' := fun w' => by
        have := hcut w'
        rw [List.length_cons, hr] at this
        exact this
      have HQ2 := Lib.hid hQ2
      have HO2 := Lib.hid hown2
      have HR := Lib.hid hr
      have hln : (p :: rest).length = r + 1 := by rw [List.length_cons, hr]
      have HWK := Lib.hid hwk
      have HKL := Lib.hid HY.out.inv.len
      rw [hln]
      have gn : (0 : Int) < (r : Int) + 1 := by omega
      have HDROP := Lib.hid (show ∀ (_ : Hit fr p → atOf p ∈ K.map (posO l)), RchY l C fr ws base T mb sb (sb + 1) w wr (.slice A2 rest.length (cv - 1)) (.slice oA K.length oc) row K rest from fun hh =>
        ⟨HY.out.inv.drop hh, HY.out.idx, hQ2, HY.out.m, HY.out.out, fun k hk => HY.out.qrow k (by rw [hown2] at hk; exact hk), fun k hk => HY.out.ne k (by rw [hown2] at hk; exact hk), HY.out.gr, HY.out.hs, by have := HY.out.few; simp only [List.length_cons] at this; omega⟩)
      clear hcut hQ2 hown2 hr hln hwk
      go_wp2_with fail
      refine (target_any p _ hp64).mono ?_
      rintro e w1 ⟨⟨n, rfl, hn⟩, rfl⟩
      cases htb : tgtB p with
      | false =>
        have HNT := Lib.hid (show ¬ Hit fr p from fun h => by unfold tgtB at htb; rw [HWK.out.1, h.1] at htb; cases htb)
        clear htb hn
        go_wp2_with fail
        refine ⟨⟨K, rest, A2, oA, cv - 1, oc, by rw [HR.out], rfl, HDROP.out (fun h => absurd h HNT.out)⟩, ?_⟩
        show _ + r < _ + (r + 1)
        omega
      | true =>
        have HT4 := Lib.hid (show tagOf (p : Int) = 4 from by unfold tgtB at htb; simp only [Bool.and_eq_true, decide_eq_true_eq] at htb; exact htb.2)
        have hn2 := hn htb
        obtain ⟨a, ha⟩ : ∃ a, atOf p = a := ⟨_, rfl⟩
        rw [ha] at hn2
        subst hn2
        have HAA := Lib.hid ha
        clear htb hn ha
        by_cases k1 : fr ≤ ((a : Nat) : Int)
        · have d1 : decide (fr ≤ ((a : Nat) : Int)) = true := decide_eq_true k1
          have HHIT := Lib.hid (show Hit fr p from ⟨HT4.out, by rw [HAA.out]; exact k1⟩)
          obtain ⟨k, o, hk, hpk⟩ := HWK.out.2 HT4.out
          rw [HAA.out] at hpk
          have hwf : Wf ((a : Nat) : Int) := Wf.of (by omega) (by have := HPOS.out k; omega)
          have HWF := Lib.hid hwf
          by_cases hin : a ∈ K.map (posO l)
          · have look1 : (Instr.lookup 132 (.map (some sb)) (.int .i64 ((a : Nat) : Int)) false).run Try.prog wr = .ok (.bool true) wr := by
              have := HY.out.m.look hwf
              rw [setP_at, decide_eq_true hin] at this
              exact this
            have HIN := Lib.hid (show Hit fr p → atOf p ∈ K.map (posO l) from fun _ => by rw [HAA.out]; exact hin)
            clear hin k1 hk hpk hwf
            go_wp2_with fail
            refine ⟨⟨K, rest, A2, oA, cv - 1, oc, by rw [HR.out], rfl, HDROP.out HIN.out⟩, ?_⟩
            show _ + r < _ + (r + 1)
            omega
          · have look1 : (Instr.lookup 132 (.map (some sb)) (.int .i64 ((a : Nat) : Int)) false).run Try.prog wr = .ok (.bool false) wr := by
              have := HY.out.m.look hwf
              rw [setP_at, decide_eq_false hin] at this
              exact this
            obtain ⟨pA, pc, hC, -⟩ := HY.out.idx.idx.each k o hk
            subst hpk
            have HK := Lib.hid hk
            have HC := Lib.hid hC
            have HINV := Lib.hid (HY.out.inv.new HHIT.out hk HAA.out.symm (by rw [HAA.out]; exact hin) (fun x hx => ⟨HPT.out k o hk x hx, (HGO.out o (List.mem_of_getElem? hk)).parts x hx⟩))
            have HNO := Lib.hid (show setP l K ((posO l k : Nat) : Int) = false by rw [setP_at]; exact decide_eq_false hin)
            have hpl4 : o.parts.length ≤ 400 := by
              have h1 := (okOb_iff.1 (HGO.out o (List.mem_of_getElem? hk)).ok).2.2.2.1
              have h2 := mostP_le o.kind
              omega
            have hKn : K.length + 1 ≤ 4000 := by
              have h1 := HINV.out.len
              rw [List.length_append] at h1
              simp only [List.length_cons, List.length_nil] at h1
              omega
            have HPL := Lib.hid hpl4
            have HKN := Lib.hid hKn
            have HML := Lib.hid (show K.length < maxLen by unfold maxLen; omega)
            have HRF := Lib.hid (show r + 1 ≤ N + 400 * K.length from by have h1 := HY.out.few; rw [List.length_cons, HR.out, HN.out] at h1; exact h1)
            obtain ⟨P, hP⟩ : ∃ P, posO l k = P := ⟨_, rfl⟩
            rw [hP] at look1 HNO hwf HWF d1
            have HP := Lib.hid hP
            have HLT := Lib.hid (show rest.length + o.parts.length ≤ 10000000 from by have h1 := HRF.out; rw [HR.out]; omega)
            obtain ⟨kd, hkd⟩ : ∃ kd, o.kind = kd := ⟨_, rfl⟩
            obtain ⟨nm, hnm⟩ : ∃ nm, o.num = nm := ⟨_, rfl⟩
            obtain ⟨tx, htx⟩ : ∃ tx, o.text = tx := ⟨_, rfl⟩
            obtain ⟨pp, hpp⟩ : ∃ pp, o.parts = pp := ⟨_, rfl⟩
            have HPP := Lib.hid hpp
            have HLOOK := Lib.hid (show ∀ wx, IdxT wx base T mb l C → (Instr.lookup 78 (.map (some mb)) (.int .i64 ((P : Nat) : Int)) false).run Try.prog wx = .ok (.agg #[.int .i64 ((P : Nat) : Int), .int .i64 kd, .int .i64 nm, .string tx, .slice pA pp.length pc]) wx ∧ OwnU wx base (.slice pA pp.length pc) pp from fun wx hx => by
              have := hx.at hk hC (by rw [hP]; exact hwf)
              rw [hP, hkd, hnm, htx, hpp] at this
              exact this)
            have HOB := Lib.hid (show C k = [.int .i64 ((P : Nat) : Int), .int .i64 kd, .int .i64 nm, .string tx, .slice pA pp.length pc] from by rw [hC]; unfold obC; rw [hP, hkd, hnm, htx, hpp])
            have HSBT := Lib.hid (show T ≤ sb ∧ sb + 1 ≤ wr.heap.size from ⟨by have := HSB.out; omega, HY.out.hs⟩)
            rw [hpp] at HPL HLT
            rw [hP]
            clear hin k1 hk hC hP hkd hnm htx hpp hpl4 hKn hwf
            have HNSB := Lib.hid (show bQ ≠ sb from fun e => by
              rcases HY.out.qrow bQ rfl with h | h
              · have := HROWLT.out bQ h
                omega
              · omega)
            have HTQ := Lib.hid (show T ≤ bQ from hbQ)
            have hfld : ∀ w, (Instr.field 33 (.agg #[.int .i64 ((P : Nat) : Int), .int .i64 kd, .int .i64 nm, .string tx, .slice pA pp.length pc]) 4).run Try.prog w = .ok (.slice pA pp.length pc) w := fun w => field4 _ _ _ _ _ _ _ w
            go_wp2_with (first | (at_mapUpdate; (refine wpList_store_S rfl _ _ _ rfl sb K.length (setP l K) rfl HY.out.m HML.out ((P : Nat) : Int) HNO.out rfl rfl HWF.out ?_; intro w5 hM5 hg5; have HM5 := Lib.hid hM5; have HG5 := Lib.hid hg5; have HI5 := Lib.hid (HY.out.idx.grown hg5 (fun k hk => by injection hk with hk; have := HSBT.out.1; omega)); have hlk5 := (HLOOK.out w5 HI5.out).1; have HOUT5 := Lib.hid (own_grown HY.out.out hg5 (fun k hk e => by injection e with e; have := (World.ownsRow.lt HY.out.out k hk).1; omega)); have HQ5 := Lib.hid (HQ2.out.grown hg5 (fun k hk e => by rw [HO2.out] at hk; injection hk with hk; injection e with e; exact HNSB.out (by omega))); clear hM5 hg5)) | (at_builtin; (refine wpList_append_own_at _ rfl _ _ 38 rfl (sb + 1) 33 i0 _ 5 64 Try.underlying38 hi hz0 hz1 hz2 rfl (by omega) (.slice oA K.length oc) K.length (flatC (outC C K) K.length) rfl (HOUT5.out.alloc _) ⟨w5.heap.size, 0, none⟩ 1 1 [.int .i64 ((P : Nat) : Int), .int .i64 kd, .int .i64 nm, .string tx, .slice pA pp.length pc] rfl rfl (cell_newL _ _ _ _ rfl) (fun u hu => by simp at hu; rcases hu with rfl | rfl | rfl | rfl | rfl <;> rfl) (by have := HKN.out; unfold maxLen; omega) (by have := HKN.out; omega) (by have h1 := HG5.out.size; have h2 := HSBT.out.2; simp; omega) ?_; intro v6 w6 hq6 hg6 _ hat6; have HOUT6 := Lib.hid hq6; have HG6 := Lib.hid hg6; have HA6 := Lib.hid hat6; have HI6 := Lib.hid ((HI5.out.below ((Below.refl _ _).alloc (Nat.le_refl _) _)).grown hg6 (fun k hk => by have h1 := (World.ownsRow.lt HOUT5.out k hk).1; have h2 := HSBT.out.1; omega)); have hlk6 := (HLOOK.out w6 HI6.out).1; have HPU6 := Lib.hid (Su.of_own (HLOOK.out w6 HI6.out).2); have HQ6 := Lib.hid (show QW w6 T (.slice A2 r (cv - 1)) rest from by have h1 := (HQ5.out.below ((Below.refl _ _).alloc (Nat.le_refl _) _)).grown hg6 (fun k hk e => by rw [HO2.out] at hk; injection hk with hk; subst hk; exact HY.out.ne bQ rfl e); rw [HR.out] at h1; exact h1); have HZ6 := Lib.hid (show T ≤ w6.heap.size from by have h1 := hg6.size; have h2 := HG5.out.size; have h3 := HSBT.out; simp at h1; omega); obtain ⟨A6, c6, hv6, -, -, -⟩ := own_any hq6; subst hv6; clear hq6 hg6 hat6)) | (at_builtin; (refine wpList_append_qw rfl _ _ 22 22 rfl Try.underlying22 Try.underlying22 T (.slice A2 r (cv - 1)) rest rfl HQ6.out (.slice pA pp.length pc) pp rfl HPU6.out HLT.out HZ6.out ?_; intro v7 w7 hq7 hg7 hat7; have HQ7 := Lib.hid hq7; have HG7 := Lib.hid hg7; have HA7 := Lib.hid hat7; obtain ⟨A7, c7, hv7, -, -⟩ := hq7.form; subst hv7; clear hq7 hg7 hat7)))
            have hbq : ∀ k, (Value.slice A2 r (cv - 1)).ownBlock = some k → k = bQ := fun k hk => by
              have h1 := HO2.out
              rw [HR.out, hk] at h1
              injection h1
            have hbo := fun k hk => World.ownsRow.lt HOUT5.out k hk
            have hz5 := HG5.out.size
            have hz6 : w5.heap.size + 1 ≤ w6.heap.size := by have := HG6.out.size; simpa using this
            have hz7 := HG7.out.size
            have hst := HSBT.out
            have hkn := HKN.out
            have hb6 : ∀ k, (Value.slice A6 (K.length + 1) c6).ownBlock = some k → k ≠ bQ ∧ sb + 1 ≤ k ∧ k < w6.heap.size := fun k hk => by
              have h6 := World.ownsRow.lt HOUT6.out k hk
              refine ⟨fun e => ?_, h6.1, h6.2⟩
              rcases HA6.out with h1 | h1
              · rw [h1] at hk
                exact HY.out.ne bQ rfl (by rw [← e]; exact hk)
              · rw [h1] at hk
                injection hk with hk
                simp at hk
                omega
            have hlen : (K ++ [k]).length = K.length + 1 := by simp
            refine ⟨⟨K ++ [k], rest ++ pp, A7, A6, c7, c6, by rw [List.length_append], by rw [hlen], ?_⟩, ?_⟩
            · rw [hlen]
              refine ⟨by have := HINV.out; rw [HPP.out] at this; exact this, HI6.out.grown HG7.out (fun k hk => by have := hbq k hk; have := HTQ.out; omega), HQ7.out, ?_, ?_, fun k hk => ?_, fun k hk e => ?_, ?_, by omega, ?_⟩
              · rw [setP_snoc, HP.out, hlen]
                exact (((HM5.out.below ((Below.refl _ _).alloc (Nat.le_refl _) _)).kept HG6.out (fun e => by have := (hbo sb e.symm).1; omega)).kept HG7.out (fun e => by have := hbq sb e.symm; exact HNSB.out this.symm))
              · rw [flat_outC, hlen, HOB.out]
                exact own_grown HOUT6.out HG7.out (fun k hk e => (hb6 k hk).1 (hbq k e))
              · rcases HA7.out with h1 | ⟨g, h1, h2⟩
                · rw [h1] at hk
                  have := hbq k hk
                  subst this
                  exact HY.out.qrow _ rfl
                · rw [h1] at hk
                  injection hk with hk
                  exact .inr (by omega)
              · have h6 := hb6 k e
                rcases HA7.out with h1 | ⟨g, h1, h2⟩
                · rw [h1] at hk
                  exact h6.1 (hbq k hk)
                · rw [h1] at hk
                  injection hk with hk
                  omega
              · refine grown_step (grown_step (grown_step (grown_step HY.out.gr HG5.out (.inr (fun k hk => by injection hk with hk; have := HSB.out; omega))) (World.grownBy_alloc w5 _ none) (.inr (by simp))) HG6.out (.inr (fun k hk => by have := (hbo k hk).1; have := HSB.out; omega))) HG7.out ?_
                rcases HY.out.qrow bQ rfl with h1 | h1
                · left
                  rw [h1]
                  have h2 := HO2.out
                  rw [HR.out] at h2
                  exact h2
                · right
                  intro k hk
                  have := hbq k hk
                  have := HSB.out
                  omega
              · rw [List.length_append, HR.out, hlen, HN.out]
                have h1 := HRF.out
                have h2 := HPL.out
                omega
            · have hm7 := (((HM5.out.below ((Below.refl _ _).alloc (Nat.le_refl _) (.cells #[.int .i64 ((P : Nat) : Int), .int .i64 kd, .int .i64 nm, .string tx, .slice pA pp.length pc] 33))).kept HG6.out (fun e => by have := (hbo sb e.symm).1; omega)).kept HG7.out (fun e => by have := hbq sb e.symm; exact HNSB.out this.symm)).cnt
              rw [hm7, HY.out.m.cnt]
              show 1000 * (5000 - (K.length + 1)) + (rest.length + pp.length) < 1000 * (5000 - K.length) + (r + 1)
              rw [HR.out]
              have h2 := HPL.out
              omega
        · have d1 : decide (fr ≤ ((a : Nat) : Int)) = false := decide_eq_false k1
          have HNH := Lib.hid (show ¬ Hit fr p from fun h => k1 (by have := h.2; rw [HAA.out] at this; exact this))
          clear k1
          go_wp2_with fail
          refine ⟨⟨K, rest, A2, oA, cv - 1, oc, by rw [HR.out], rfl, HDROP.out (fun h => absurd h HNH.out)⟩, ?_⟩
          show _ + r < _ + (r + 1)
          omega
end Go.Proofs.Ytkdbnkkdohkhjaa
namespace Go.Proofs.Ytkdbnkkdohkhjaa
open Go.RowKit
set_option linter.unusedVariables false
/-- a word behind a move -/
def mv (P : List (Nat × Nat)) (p : Nat) : Nat := if tgtB p = true then (match look P (atOf p) with | some n => cw n | none => p) else p
theorem lookI_look (P : List (Nat × Nat)) (a : Nat) : lookI P (a : Int) = (look P a).map fun n : Nat => (n : Int) := by
  induction P with
  | nil => rfl
  | cons x P ih =>
    obtain ⟨b, n⟩ := x
    simp only [lookI, look]
    by_cases e : a = b
    · rw [if_pos e, if_pos (by omega)]; rfl
    · rw [if_neg e, if_neg (by omega)]; exact ih
theorem mv_lt {P : List (Nat × Nat)} (h : ∀ a n, (a, n) ∈ P → n < 4000) {p : Nat} (hp : p < 18446744073709551616) : mv P p < 18446744073709551616 := by
  unfold mv
  split
  · split
    · rename_i n hn
      exact cw_lt (h _ _ (look_mem hn))
    · exact hp
  · exact hp
set_option maxHeartbeats 2000000 in
set_option maxRecDepth 100000 in
theorem moved_any (P : List (Nat × Nat)) (pb n x : Nat) (w : World) (hM : OwnMN w pb n (lookI P)) (hP : ∀ a n, (a, n) ∈ P → n < 4000) (hx : x < 18446744073709551616) : Calls Try.prog 73 #[.int .u64 (x : Int), .map (some pb)] w fun e w' => e = .returned (.int .u64 ((mv P x : Nat) : Int)) ∧ w = w' := by
  have ht := target_any x w hx
  cases htb : tgtB x with
  | false =>
    have HMV := Lib.hid (show mv P x = x by unfold mv; rw [htb]; rfl)
    rw [htb] at ht
    have HT := Lib.hid ht
    clear htb hM ht
    go_enter Try.func73, Try.ntmps73
    go_wp2_with fail
    refine HT.out.mono ?_
    rintro e w1 ⟨⟨m, rfl, -⟩, rfl⟩
    go_wp2_with fail
    go_ret
    exact ⟨by rw [HMV.out]; rfl, rfl⟩
  | true =>
    rw [htb] at ht
    have HT := Lib.hid ht
    have htb2 := htb
    unfold tgtB at htb2
    simp only [Bool.and_eq_true, decide_eq_true_eq] at htb2
    obtain ⟨_, ha60⟩ := okR_at htb2.1 htb2.2
    obtain ⟨a, ha⟩ : ∃ a, atOf x = a := ⟨_, rfl⟩
    rw [ha] at HT ha60
    have hlk := hM.look_ok (x := ((a : Nat) : Int)) (Wf.of (by omega) (by omega))
    rw [lookI_look] at hlk
    cases hl : look P a with
    | none =>
      have HMV := Lib.hid (show mv P x = x by unfold mv; rw [htb, ha, hl]; rfl)
      rw [hl] at hlk
      have hlk1 : (Instr.lookup 136 (.map (some pb)) (.int .i64 ((a : Nat) : Int)) true).run Try.prog w = .ok (.tuple #[.int .i64 0, .bool false]) w := hlk
      clear htb htb2 ha ha60 hl hlk ht hM
      go_enter Try.func73, Try.ntmps73
      go_wp2_with fail
      refine HT.out.mono ?_
      rintro e w1 ⟨⟨m, rfl, hm⟩, rfl⟩
      have hm2 := hm trivial
      subst hm2
      clear hm
      go_wp2_with fail
      go_ret
      exact ⟨by rw [HMV.out]; rfl, rfl⟩
    | some n' =>
      have HMV := Lib.hid (show mv P x = cw n' by unfold mv; rw [htb, ha, hl]; rfl)
      have hn4 := hP _ _ (look_mem hl)
      rw [hl] at hlk
      have hlk1 : (Instr.lookup 136 (.map (some pb)) (.int .i64 ((a : Nat) : Int)) true).run Try.prog w = .ok (.tuple #[.int .i64 ((n' : Nat) : Int), .bool true]) w := hlk
      obtain ⟨hw1, hw2⟩ := cw_word (p := n') hn4
      have hwd := word_ok 4 (n' : Int) w hw2
      rw [hw1] at hwd
      have HWD := Lib.hid hwd
      clear htb htb2 ha ha60 hl hlk ht hM hw1 hw2 hn4 hwd
      go_enter Try.func73, Try.ntmps73
      go_wp2_with fail
      refine HT.out.mono ?_
      rintro e w1 ⟨⟨m, rfl, hm⟩, rfl⟩
      have hm2 := hm trivial
      subst hm2
      clear hm
      go_wp2_with fail
      refine HWD.out.mono ?_
      rintro e w2 ⟨rfl, rfl⟩
      go_wp2_with fail
      go_ret
      exact ⟨by rw [HMV.out]; rfl, rfl⟩
end Go.Proofs.Ytkdbnkkdohkhjaa
namespace Go.Proofs.Ytkdbnkkdohkhjaa
open Go.RowKit
set_option linter.unusedVariables false
def oK (l : List Ob) (K : List Nat) : List Ob := K.map fun k => l.getD k goneO
theorem oK_snoc (l : List Ob) (K : List Nat) (k : Nat) : oK l (K ++ [k]) = oK l K ++ [l.getD k goneO] := by simp [oK]
/-- the heap behind i copies -/
def cpH (l : List Ob) (g K : List Nat) (i : Nat) : List Nat := g ++ flatO (oK l (K.take i))
/-- where the copies lie, the newest first -/
def plc (l : List Ob) (g K : List Nat) : Nat → List (Nat × Nat)
  | 0 => []
  | i + 1 => (posO l (K.getD i 0), (cpH l g K i).length) :: plc l g K i
theorem cpH_succ {l : List Ob} {g K : List Nat} {i k : Nat} {o : Ob} (hk : K[i]? = some k) (ho : l[k]? = some o) : cpH l g K (i + 1) = cpH l g K i ++ wordsO o := by
  unfold cpH
  rw [List.take_add_one, hk]
  show g ++ flatO (oK l (K.take i ++ [k])) = _
  rw [oK_snoc, flatO_snoc, ← List.append_assoc]
  simp [List.getD, ho]
theorem cpH_le (l : List Ob) (g K : List Nat) : ∀ (i j : Nat), i ≤ j → (cpH l g K i).length ≤ (cpH l g K j).length := by
  intro i j h
  unfold cpH
  have : K.take i = (K.take j).take i := by rw [List.take_take]; congr 1; omega
  rw [this]
  conv => rhs; rw [← List.take_append_drop i (K.take j)]
  unfold oK
  rw [List.map_append, flatO_append]
  simp only [List.length_append]
  omega
theorem plc_keys {l : List Ob} {g K : List Nat} : ∀ {i : Nat} {a n : Nat}, (a, n) ∈ plc l g K i → ∃ j, j < i ∧ a = posO l (K.getD j 0) ∧ n = (cpH l g K j).length := by
  intro i
  induction i with
  | zero => intro a n h; cases h
  | succ i ih =>
    intro a n h
    rcases List.mem_cons.1 h with h | h
    · injection h with h1 h2
      exact ⟨i, by omega, h1, h2⟩
    · obtain ⟨j, hj, h1, h2⟩ := ih h
      exact ⟨j, by omega, h1, h2⟩
theorem plc_new {l : List Ob} {g K : List Nat} (hn : K.Nodup) (hlt : ∀ k ∈ K, k < l.length) {i : Nat} (hi : i < K.length) : lookI (plc l g K i) ((posO l (K.getD i 0) : Nat) : Int) = none := by
  cases h : lookI (plc l g K i) ((posO l (K.getD i 0) : Nat) : Int) with
  | none => rfl
  | some y =>
    obtain ⟨a, n, e1, e2, e3⟩ := lookI_mem h
    obtain ⟨j, hj, h1, h2⟩ := plc_keys e3
    have hgi : K.getD i 0 = K[i] := by simp [List.getD, hi]
    have hgj : K.getD j 0 = K[j] := by simp [List.getD, show j < K.length by omega]
    have hpp : posO l (K.getD i 0) = posO l (K.getD j 0) := by omega
    rw [hgi, hgj] at hpp
    have := posO_inj (hlt _ (List.getElem_mem _)) (hlt _ (List.getElem_mem _)) hpp
    exact absurd this.symm (List.pairwise_iff_getElem.1 hn j i (by omega) hi hj)
def CopPost (l : List Ob) (g K : List Nat) (base0 : Nat) (w : World) (e : Ending) (w' : World) : Prop := ∃ A c pb, e = .returned (.tuple #[.slice A (cpH l g K K.length).length c, .map (some pb)]) ∧ OwnU w' base0 (.slice A (cpH l g K K.length).length c) (cpH l g K K.length) ∧ OwnMN w' pb K.length (lookI (plc l g K K.length)) ∧ w.heap.size ≤ pb ∧ Below w.heap.size w w' ∧ (∀ k, (Value.slice A (cpH l g K K.length).length c).ownBlock = some k → k ≠ pb)
set_option maxHeartbeats 8000000 in
set_option maxRecDepth 100000 in
theorem copied_any (l : List Ob) (C : Nat → List Value) (g K : List Nat) (gA oA : Option Addr) (gc oc base0 base2 base T mb : Nat) (w : World) (hG : OwnU w base0 (.slice gA g.length gc) g) (hR : w.ownsRow base2 33 5 (.slice oA K.length oc) K.length (flatC (outC C K) K.length)) (hI : IdxT w base T mb l C)
    (hn : K.Nodup) (hlt : ∀ k ∈ K, k < l.length) (hg : ∀ o ∈ l, GoodOb o) (hpos : ∀ k, posO l k ≤ 4000) (hfit : (cpH l g K K.length).length ≤ 4000) (hK : K.length ≤ 4000) (hb0 : base0 ≤ w.heap.size) :
    Calls Try.prog 70 #[.slice gA g.length gc, .slice oA K.length oc] w (CopPost l g K base0 w) := by
  have HG := Lib.hid hG
  have HR := Lib.hid hR
  have HI := Lib.hid hI
  have HN := Lib.hid hn
  have HLT := Lib.hid hlt
  have HGO := Lib.hid hg
  have HPOS := Lib.hid hpos
  have HFIT := Lib.hid hfit
  have hmm := @run_makeMap Try.prog
  obtain ⟨pb, hpb⟩ : ∃ pb, w.heap.size = pb := ⟨_, rfl⟩
  have HPB := Lib.hid hpb
  have HA1 := Lib.hid (show Below w.heap.size w (w.alloc (.map #[] 0)) from (Below.refl _ _).alloc (Nat.le_refl _) _)
  have HM0 := Lib.hid (show OwnMN (w.alloc (.map #[] 0)) pb 0 (lookI (plc l g K 0)) from by
    have := OwnMN.made w
    rw [hpb] at this
    exact this)
  have hg0 : cpH l g K 0 = g := by simp [cpH, oK, flatO]
  have HG0 := Lib.hid hg0
  have HL5 := Lib.hid (show ∀ i, (outC C K i).length = 5 from fun i => HI.out.idx.len _)
  clear hG hR hI hn hlt hg hpos hfit hpb hg0
  go_enter Try.func70, Try.ntmps70
  go_wp2_with fail
  rw [HPB.out]
  go_loopw [0, 8, 12] (fun x0 _ x12 wx => ∃ (i : Nat) (A : Option Addr) (c : Nat), i ≤ K.length ∧ x12 = .int .i64 (i : Int) ∧ x0 = .slice A (cpH l g K i).length c ∧ OwnU wx base0 (.slice A (cpH l g K i).length c) (cpH l g K i) ∧ OwnMN wx pb i (lookI (plc l g K i)) ∧ Below w.heap.size w wx ∧ (∀ k, (Value.slice A (cpH l g K i).length c).ownBlock = some k → k ≠ pb)) (fun _ _ x12 _ => K.length - (intOf x12).toNat)
  case atStart =>
    refine ⟨0, gA, gc, Nat.zero_le _, rfl, by rw [HG0.out], ?_, HM0.out, HA1.out, fun k hk => ?_⟩
    · rw [HG0.out]
      exact HG.out.below HA1.out
    · rw [HG0.out] at hk
      have := (HG.out.blk k hk).2
      have := HPB.out
      omega
  case round =>
    obtain ⟨i, A, c, hi, rfl, rfl, hO, hM, hB, hne⟩ := hrel
    have HO := Lib.hid hO
    have HM := Lib.hid hM
    have HB := Lib.hid hB
    have HNE := Lib.hid hne
    have hBz := hB.size
    clear hO hM hB hne
    by_cases hil : i < K.length
    · obtain ⟨k, hk⟩ : ∃ k, K[i]? = some k := ⟨_, List.getElem?_eq_getElem hil⟩
      have hkm := List.mem_of_getElem? hk
      obtain ⟨o, ho⟩ : ∃ o, l[k]? = some o := ⟨_, List.getElem?_eq_getElem (HLT.out k hkm)⟩
      obtain ⟨pA, pc, hC, hU⟩ := HI.out.idx.each k o ho
      have HRW := Lib.hid (own_keep HR.out (HB.out))
      obtain ⟨bk, cap, hv, hbk, hlt2, _⟩ := own_form HRW.out (by omega)
      injection hv with hv1 _ hv3
      subst hv1 hv3
      have hcell := fun j (hj : j < 5) => own_cellC HRW.out HL5.out hil (j := j) hj
      have hCi : outC C K i = obC (posO l k) o pA pc := by rw [← hC]; simp [outC, List.getD, hk]
      rw [hCi] at hcell
      have hgd : K.getD i 0 = k := by simp [List.getD, hk]
      obtain ⟨P, hP⟩ : ∃ P, posO l k = P := ⟨_, rfl⟩
      rw [hP] at hcell
      have hP4 : P ≤ 4000 := by rw [← hP]; exact HPOS.out k
      have c0 : wr.cell? ⟨bk, i * 5, none⟩ = some (.int .i64 ((P : Nat) : Int)) := hcell 0 (by omega)
      have c1 : wr.cell? ⟨bk, i * 5 + 1, none⟩ = some (.int .i64 o.kind) := hcell 1 (by omega)
      have c2 : wr.cell? ⟨bk, i * 5 + 2, none⟩ = some (.int .i64 o.num) := hcell 2 (by omega)
      have c3 : wr.cell? ⟨bk, i * 5 + 3, none⟩ = some (.string o.text) := hcell 3 (by omega)
      have c4 : wr.cell? ⟨bk, i * 5 + 4, none⟩ = some (.slice pA o.parts.length pc) := hcell 4 (by omega)
      have HCP := Lib.hid (cpH_succ (g := g) hk ho)
      have HF := Lib.hid (show FitsOb (cpH l g K i) o from ⟨(HGO.out o (List.mem_of_getElem? ho)).ok, by
        have h1 := cpH_le l g K (i + 1) K.length hil
        rw [HCP.out, List.length_append] at h1
        have := HFIT.out
        omega⟩)
      have HNEW := Lib.hid (show lookI (plc l g K i) ((P : Nat) : Int) = none from by
        have := plc_new (g := g) HN.out HLT.out hil
        rw [hgd, hP] at this
        exact this)
      have HPL := Lib.hid (show plc l g K (i + 1) = (P, (cpH l g K i).length) :: plc l g K i from by rw [plc, hgd, hP])
      have HUU := Lib.hid (hU.below HB.out)
      have HWF := Lib.hid (show Wf ((P : Nat) : Int) from Wf.of (by omega) (by omega))
      have hG4 : (cpH l g K i).length ≤ 4000 := by
        have h1 := cpH_le l g K i K.length (by omega)
        have := HFIT.out
        omega
      obtain ⟨Gi, hGi⟩ : ∃ Gi, cpH l g K i = Gi := ⟨_, rfl⟩
      rw [hGi] at HCP HF HPL HO HNE hG4
      rw [hGi]
      have HGI := Lib.hid hGi
      have HWG := Lib.hid (show Wf ((Gi.length : Nat) : Int) from Wf.of (by omega) (by omega))
      obtain ⟨kd, hkd⟩ : ∃ kd, o.kind = kd := ⟨_, rfl⟩
      obtain ⟨nm, hnm⟩ : ∃ nm, o.num = nm := ⟨_, rfl⟩
      obtain ⟨tx, htx⟩ : ∃ tx, o.text = tx := ⟨_, rfl⟩
      obtain ⟨pl, hpl⟩ : ∃ pl, o.parts.length = pl := ⟨_, rfl⟩
      rw [hkd] at c1
      rw [hnm] at c2
      rw [htx] at c3
      rw [hpl] at c4 HUU
      obtain ⟨W0, hW0⟩ : ∃ W0, W0 = wr.alloc (.cells #[.int .i64 ((P : Nat) : Int), .int .i64 kd, .int .i64 nm, .string tx, .slice pA pl pc] 33) := ⟨_, rfl⟩
      have HB0 := Lib.hid (show Below wr.heap.size wr W0.drew by rw [hW0]; exact ((Below.refl _ _).alloc (Nat.le_refl _) _).drew)
      have HZ0 := Lib.hid (show W0.drew.heap.size = wr.heap.size + 1 by rw [hW0]; show (wr.alloc _).heap.size = _; simp)
      have HY := Lib.hid (show W0.drew.cell? ⟨wr.heap.size, 0, none⟩ = some (.int .i64 ((P : Nat) : Int)) ∧ W0.drew.cell? ⟨wr.heap.size, 1, none⟩ = some (.int .i64 kd) ∧ W0.drew.cell? ⟨wr.heap.size, 2, none⟩ = some (.int .i64 nm) ∧ W0.drew.cell? ⟨wr.heap.size, 3, none⟩ = some (.string tx) ∧ W0.drew.cell? ⟨wr.heap.size, 4, none⟩ = some (.slice pA pl pc) by
        rw [hW0]
        refine ⟨?_, ?_, ?_, ?_, ?_⟩ <;> (show (wr.alloc _).cell? _ = _; simp [go_sem]))
      have HPUT := Lib.hid (show Calls Try.prog 31 #[.slice A Gi.length c, .agg #[.int .i64 ((P : Nat) : Int), .int .i64 kd, .int .i64 nm, .string tx, .slice pA pl pc]] W0.drew (PutOk Gi o W0.drew) from by
        have := Put_ok Gi A c o ((P : Nat) : Int) pA pc W0.drew (Su.of_own (HO.out.below HB0.out)) (by rw [hpl]; exact Su.of_own (HUU.out.below HB0.out)) HF.out
        rw [hkd, hnm, htx, hpl] at this
        exact this)
      have HZL := Lib.hid (show wr.heap.size < W0.drew.heap.size from by have := HZ0.out; omega)
      have HML := Lib.hid (show i < maxLen from by unfold maxLen; omega)
      have hpbz : pb < wr.heap.size := HM.out.lt
      clear hk hkm ho hC hU hcell hCi hgd hP hP4 hG4 hGi hkd hnm htx hpl
      go_wp2_with fail
      rw [← hW0]
      clear hW0 c0 c1 c2 c3 c4
      obtain ⟨q0, q1, q2, q3, q4⟩ := HY.out
      go_region_held3 (fun W => W.cell? ⟨wr.heap.size, 0, none⟩ = some (.int .i64 ((P : Nat) : Int)) ∧ W.cell? ⟨wr.heap.size, 1, none⟩ = some (.int .i64 kd) ∧ W.cell? ⟨wr.heap.size, 2, none⟩ = some (.int .i64 nm) ∧ W.cell? ⟨wr.heap.size, 3, none⟩ = some (.string tx) ∧ W.cell? ⟨wr.heap.size, 4, none⟩ = some (.slice pA pl pc))
        (first | exact ⟨q0, q1, q2, q3, q4⟩ | exact ⟨r0, r1, r2, r3, r4⟩ | exact ⟨s0, s1, s2, s3, s4⟩ | go_keep)
        ((go_at_call 31; refine HPUT.out.mono ?_; rintro e w5 ⟨A5, c5, rfl, hO5, hb5⟩; have hlt5 := HZL.out; have r0 := (hb5.cell (p := ⟨wr.heap.size, 0, none⟩) hlt5).trans q0; have r1 := (hb5.cell (p := ⟨wr.heap.size, 1, none⟩) hlt5).trans q1; have r2 := (hb5.cell (p := ⟨wr.heap.size, 2, none⟩) hlt5).trans q2; have r3 := (hb5.cell (p := ⟨wr.heap.size, 3, none⟩) hlt5).trans q3; have r4 := (hb5.cell (p := ⟨wr.heap.size, 4, none⟩) hlt5).trans q4; have HB5 := Lib.hid (HB0.out.trans (hb5.mono HB0.out.size)); have HO5 := Lib.hid hO5; obtain ⟨w6, hst, hM6, hg6⟩ := OwnMN.store (HM.out.below HB5.out) HML.out ((P : Nat) : Int) ((Gi.length : Nat) : Int) HNEW.out HWF.out HWG.out; have hz56 := Nat.lt_of_lt_of_le HZL.out hb5.size; have s0 := (grown_cell hg6 hz56 (fun e => by injection e with e; omega)).trans r0; have s1 := (grown_cell hg6 hz56 (fun e => by injection e with e; omega)).trans r1; have s2 := (grown_cell hg6 hz56 (fun e => by injection e with e; omega)).trans r2; have s3 := (grown_cell hg6 hz56 (fun e => by injection e with e; omega)).trans r3; have s4 := (grown_cell hg6 hz56 (fun e => by injection e with e; omega)).trans r4; have HM6 := Lib.hid hM6; have HG6 := Lib.hid hg6; clear hO5 hb5 hM6 hg6))
      all_goals
        go_wp2_with fail
        have hz5 := HB5.out.size
        have hzl := HZL.out
        have hpw := HPB.out
        refine ⟨⟨i + 1, A5, c5, by omega, by go_num, by rw [HCP.out, List.length_append], ?_, ?_, ?_, fun k hk => ?_⟩, by simp [intOf]; omega⟩
        · rw [HCP.out]
          exact (HO5.out.grown HG6.out (fun k hk e => by injection e with e; have := (HO5.out.blk k hk).1; omega)).mono (by omega)
        · rw [HPL.out]
          have e : lookI ((P, Gi.length) :: plc l g K i) = fun y => if y = ((P : Nat) : Int) then some ((Gi.length : Nat) : Int) else lookI (plc l g K i) y := by funext y; rfl
          rw [e]
          exact HM6.out
        · exact below_grown (HB.out.trans (HB5.out.mono hBz)) (by omega) HG6.out (fun g hg => by injection hg with hg; omega)
        · rw [HCP.out] at hk
          have := (HO5.out.blk k hk).1
          omega
    · have hiK : i = K.length := by omega
      have HIK := Lib.hid hiK
      have d0 : decide ((i : Int) < (K.length : Int)) = false := decide_eq_false (by omega)
      clear hiK
      go_wp2_with fail
      go_ret2
      rw [HIK.out] at HO HM HNE
      exact ⟨A, c, pb, by rw [← HIK.out]; rfl, HO.out, HM.out, by have := HPB.out; omega, HB.out, HNE.out⟩
end Go.Proofs.Ytkdbnkkdohkhjaa
namespace Go.Proofs.Ytkdbnkkdohkhjaa
open Go.RowKit
set_option linter.unusedVariables false
/-- an object's words without its parts -/
def hdW (o : Ob) : List Nat := headW o.kind o.text.size o.parts.length :: (numW o ++ tw (bt o.text) o.text.size)
theorem wordsO_hd (o : Ob) : wordsO o = hdW o ++ o.parts := by simp [wordsO, hdW]
theorem hdW_parts (o : Ob) {ps : List Nat} (h : ps.length = o.parts.length) : hdW (withParts o ps) = hdW o := by
  unfold hdW withParts numW
  dsimp only
  rw [h]
def mvO (P : List (Nat × Nat)) (o : Ob) : Ob := withParts o (o.parts.map (mv P))
theorem wordsO_mv (P : List (Nat × Nat)) (o : Ob) : wordsO (mvO P o) = hdW o ++ o.parts.map (mv P) := by
  rw [wordsO_hd]
  unfold mvO
  rw [hdW_parts o (by simp)]
  rfl
/-- the parts behind i moves -/
def mvS (P : List (Nat × Nat)) (p : List Nat) (i : Nat) : List Nat := (p.map (mv P)).take i ++ p.drop i
theorem mvS_len (P : List (Nat × Nat)) (p : List Nat) {i : Nat} (h : i ≤ p.length) : (mvS P p i).length = p.length := by
  unfold mvS
  simp
  omega
theorem mvS_zero (P : List (Nat × Nat)) (p : List Nat) : mvS P p 0 = p := by simp [mvS]
theorem mvS_all (P : List (Nat × Nat)) (p : List Nat) : mvS P p p.length = p.map (mv P) := by
  unfold mvS
  rw [List.take_of_length_le (by simp), List.drop_length, List.append_nil]
theorem mvS_set (P : List (Nat × Nat)) (p : List Nat) {i : Nat} (h : i < p.length) : (mvS P p i).set i (mv P (nth p i)) = mvS P p (i + 1) := by
  unfold mvS
  have hl : ((p.map (mv P)).take i).length = i := by simp; omega
  rw [List.set_append_right _ _ (by omega), hl, Nat.sub_self, List.drop_eq_getElem_cons h, List.set_cons_zero, List.take_add_one]
  have : (p.map (mv P))[i]? = some (mv P (nth p i)) := by rw [List.getElem?_map, List.getElem?_eq_getElem h, nth_get h]; rfl
  rw [this]
  simp
theorem mvS_at (P : List (Nat × Nat)) (p : List Nat) {i : Nat} (h : i < p.length) : nth (mvS P p i) i = nth p i := by
  unfold mvS
  have hl : ((p.map (mv P)).take i).length = i := by simp; omega
  rw [nth_append_right (by omega), hl, Nat.sub_self, nth_drop]
  rfl
set_option maxHeartbeats 8000000 in
set_option maxRecDepth 100000 in
theorem aim_any (pre post : List Nat) (o : Ob) (P : List (Nat × Nat)) (pb n base : Nat) (A : Option Addr) (c : Nat) (w : World) (hG : OwnU w base (.slice A (pre ++ wordsO o ++ post).length c) (pre ++ wordsO o ++ post)) (hgo : GoodOb o) (hlen : (pre ++ wordsO o ++ post).length ≤ 4000) (h64 : All64 (pre ++ wordsO o ++ post)) (hM : OwnMN w pb n (lookI P)) (hP : ∀ a n, (a, n) ∈ P → n < 4000) (hne : ∀ k, (Value.slice A (pre ++ wordsO o ++ post).length c).ownBlock = some k → k ≠ pb) :
    Calls Try.prog 72 #[.slice A (pre ++ wordsO o ++ post).length c, .int .i64 (pre.length : Int), .map (some pb)] w fun e w' => e = .returned (.tuple #[]) ∧ OwnU w' base (.slice A (pre ++ wordsO o ++ post).length c) (pre ++ wordsO (mvO P o) ++ post) ∧ w.grownBy w' (Value.slice A (pre ++ wordsO o ++ post).length c).ownBlock := by
  have HGO := Lib.hid hgo
  have HM := Lib.hid hM
  have HP := Lib.hid hP
  have HRD := Lib.hid (reads_back hgo pre post)
  have HOB := Lib.hid (ob_back hgo pre post)
  have hpos : 0 < (pre ++ wordsO o ++ post).length := by
    have := wordsO_pos o
    simp only [List.length_append]
    omega
  have hwl : (wordsO o).length = (hdW o).length + o.parts.length := by rw [wordsO_hd, List.length_append]
  have HWL := Lib.hid hwl
  have HFIT := Lib.hid (show FitsOb [] o from ⟨hgo.ok, by simp only [List.length_append] at hlen; simp only [List.length_nil]; omega⟩)
  have hpl4 : o.parts.length ≤ 400 := by
    have h1 := (okOb_iff.1 hgo.ok).2.2.2.1
    have h2 := mostP_le o.kind
    omega
  obtain ⟨g, cap, cur, hv, hb, hgh, _⟩ : ∃ g cap cur, A = some ⟨g, 0, none⟩ ∧ base ≤ g ∧ g < w.heap.size ∧ cap = cur := by
    obtain ⟨g, cap, hv, hb, hlt, _⟩ := own_form hG hpos
    injection hv with h1 _ _
    exact ⟨g, 0, 0, h1, hb, hlt, rfl⟩
  subst hv
  have HNE := Lib.hid (show g ≠ pb from hne g rfl)
  have HG0 := Lib.hid (show OwnU w base (.slice (some ⟨g, 0, none⟩) (pre ++ wordsO o ++ post).length c) (pre ++ hdW o ++ mvS P o.parts 0 ++ post) from by
    have e : pre ++ hdW o ++ o.parts ++ post = pre ++ wordsO o ++ post := by rw [wordsO_hd]; simp only [List.append_assoc]
    rw [mvS_zero, e]
    exact hG)
  have HG := Lib.hid hG
  have H64 := Lib.hid h64
  obtain ⟨G, hGG⟩ : ∃ G, pre ++ wordsO o ++ post = G := ⟨_, rfl⟩
  rw [hGG] at HRD HOB HG H64 HG0 hlen hpos
  rw [hGG]
  have HGG := Lib.hid hGG
  have hGl : G.length = pre.length + (hdW o).length + o.parts.length + post.length := by rw [← hGG]; simp only [List.length_append]; omega
  obtain ⟨a, ha⟩ : ∃ a, pre.length = a := ⟨_, rfl⟩
  rw [ha] at HRD HOB hGl
  rw [ha]
  have HA := Lib.hid ha
  obtain ⟨pl, hpl⟩ : ∃ pl, o.parts.length = pl := ⟨_, rfl⟩
  obtain ⟨hl, hhl⟩ : ∃ hl, (hdW o).length = hl := ⟨_, rfl⟩
  obtain ⟨wl, hwl'⟩ : ∃ wl, (wordsO o).length = wl := ⟨_, rfl⟩
  rw [hpl, hhl] at hGl
  have hw2 : wl = hl + pl := by rw [← hwl', hwl, hpl, hhl]
  rw [hpl] at hpl4
  have HGL := Lib.hid hGl
  have HW2 := Lib.hid hw2
  have hb4 : a + hl + pl ≤ 4000 := by omega
  clear hGl hw2
  have HPL := Lib.hid hpl
  have HHL := Lib.hid hhl
  have HWLL := Lib.hid hwl'
  clear hG hgo h64 hM hP hne hwl hGG ha hpl hhl hwl'
  go_enter Try.func72, Try.ntmps72
  go_wp2_with fail
  refine (At_any G _ c (a : Int) w (Su.of_own HG.out) H64.out (by omega)).mono ?_
  rintro e w1 (⟨a', ha', -, pA, pc, rfl, ho1, hb1⟩ | ⟨hno, -⟩)
  · obtain rfl : a = a' := by omega
    have hob := HOB.out
    have hk : ((kdR G a : Nat) : Int) = o.kind := congrArg Ob.kind hob
    have hn : nmR G a = o.num := congrArg Ob.num hob
    have ht : txR G a = o.text := congrArg Ob.text hob
    have hp : paR G a = o.parts := congrArg Ob.parts hob
    rw [hp, HPL.out] at ho1
    rw [hk, hn, ht, hp, HPL.out]
    have HO1 := Lib.hid ho1
    have HB1 := Lib.hid hb1
    clear ho1 hb1 hob hk hn ht hp
    obtain ⟨kd, hkd⟩ : ∃ kd, o.kind = kd := ⟨_, rfl⟩
    obtain ⟨nm, hnm⟩ : ∃ nm, o.num = nm := ⟨_, rfl⟩
    obtain ⟨tx, htx⟩ : ∃ tx, o.text = tx := ⟨_, rfl⟩
    rw [hkd, hnm, htx]
    obtain ⟨W2, hW2⟩ : ∃ W2, W2 = w1.alloc (.cells #[.int .i64 ((a : Nat) : Int), .int .i64 kd, .int .i64 nm, .string tx, .slice pA pl pc] 33) := ⟨_, rfl⟩
    have HB2 := Lib.hid (show Below w1.heap.size w1 W2 by rw [hW2]; exact (Below.refl _ _).alloc (Nat.le_refl _) _)
    have HBX := Lib.hid (show BX W2 w1.heap.size a kd nm tx (.slice pA pl pc) by rw [hW2]; constructor <;> simp [go_sem])
    have hzb : w1.heap.size < W2.heap.size := by rw [hW2]; simp
    have HPUT := Lib.hid (show Calls Try.prog 31 #[.slice none 0 0, .agg #[.int .i64 ((a : Nat) : Int), .int .i64 kd, .int .i64 nm, .string tx, .slice pA pl pc]] W2 (PutOk [] o W2) from by
      have := Put_ok [] none 0 o ((a : Nat) : Int) pA pc W2 (Su.nil _) (by rw [HPL.out]; exact Su.of_own (HO1.out.below HB2.out)) HFIT.out
      rw [hkd, hnm, htx, HPL.out] at this
      exact this)
    clear hkd hnm htx
    go_wp2_with fail
    rw [← hW2]
    clear hW2
    refine HPUT.out.mono ?_
    rintro e w3 ⟨A3, c3, rfl, -, hb3⟩
    rw [List.nil_append, HWLL.out]
    have HB3 := Lib.hid hb3
    obtain ⟨x0, x1, x2, x3, x4⟩ := HBX.out.of (fun o => hb3.cell (p := ⟨w1.heap.size, o, none⟩) hzb)
    have hz3 : w1.heap.size < w3.heap.size := by have := hb3.size; omega
    have HB03 := Lib.hid (HB1.out.trans ((HB2.out.trans (hb3.mono HB2.out.size)).mono HB1.out.size))
    have hwl4 : wl ≤ 4000 := by have := HW2.out; omega
    have HO3 := Lib.hid ((HO1.out.below HB2.out).below hb3)
    have hw0 : w.heap.size ≤ w3.heap.size := HB03.out.size
    clear hb3
    have hpw : pl ≤ wl := by have := HW2.out; omega
    go_wp2_with fail
    obtain ⟨fs, hfs⟩ : ∃ fs : Int, ((a : Nat) : Int) + ((wl : Nat) : Int) - ((pl : Nat) : Int) = fs := ⟨_, rfl⟩
    have HFS := Lib.hid (show fs = ((a + hl : Nat) : Int) from by have := HW2.out; omega)
    rw [hfs]
    clear hfs
    go_loopw [12, 13, 37] (fun _ _ x37 wx => ∃ i : Nat, i ≤ pl ∧ x37 = .int .i64 (i : Int) ∧ OwnU wx base (.slice (some ⟨g, 0, none⟩) G.length c) (pre ++ hdW o ++ mvS P o.parts i ++ post) ∧ w3.grownBy wx (some g)) (fun _ _ x37 _ => pl - (intOf x37).toNat)
    case atStart => exact ⟨0, Nat.zero_le _, rfl, HG0.out.below HB03.out, grown_self _ _⟩
    case round =>
      obtain ⟨i, hi, rfl, hO, hgr⟩ := hrel
      have HO := Lib.hid hO
      have HGR := Lib.hid hgr
      have hgz := hgr.size
      clear hO hgr
      by_cases hlt : i < pl
      · have hpL := HPL.out
        obtain ⟨bp, op, rfl, hbp, hcp⟩ := HO3.out.rd (by omega)
        have hbpw := (HO3.out.blk bp rfl).1
        have hcq := hcp i (by omega) 0 _ rfl
        simp only [Nat.mul_one, Nat.add_zero] at hcq
        have hgp : bp ≠ g := by have := hgh; omega
        have cq : wr.cell? ⟨bp, op + i, none⟩ = some (.int .u64 ((nth o.parts i : Nat) : Int)) := (grown_cell HGR.out hbp (fun e => hgp (by injection e))).trans hcq
        have hx64 : nth o.parts i < 18446744073709551616 := HGO.out.parts.nth i
        have hlenS : (pre ++ hdW o ++ mvS P o.parts i ++ post).length = G.length := by
          simp only [List.length_append, mvS_len P o.parts (show i ≤ o.parts.length by omega)]
          have h1 := HGL.out
          have h2 := HA.out
          have h3 := HHL.out
          omega
        have hat : nth (pre ++ hdW o ++ mvS P o.parts i ++ post) (a + hl + i) = nth o.parts i := by
          have h2 := HA.out
          have h3 := HHL.out
          rw [nth_append_left (by simp only [List.length_append, mvS_len P o.parts (show i ≤ o.parts.length by omega)]; omega), nth_append_right (by simp only [List.length_append]; omega)]
          rw [show a + hl + i - (pre ++ hdW o).length = i by simp only [List.length_append]; omega, mvS_at P o.parts (by omega)]
        have hset : ∀ y, (pre ++ hdW o ++ mvS P o.parts i ++ post).set (a + hl + i) y = pre ++ hdW o ++ (mvS P o.parts i).set i y ++ post := fun y => by
          have h2 := HA.out
          have h3 := HHL.out
          rw [List.set_append_left _ _ (by simp only [List.length_append, mvS_len P o.parts (show i ≤ o.parts.length by omega)]; omega), List.set_append_right _ _ (by simp only [List.length_append]; omega)]
          rw [show a + hl + i - (pre ++ hdW o).length = i by simp only [List.length_append]; omega]
        obtain ⟨cG, hzG, fG⟩ : wr.cell? ⟨g, a + hl + i, none⟩ = some (.int .u64 ((nth o.parts i : Nat) : Int)) ∧ g < wr.heap.size ∧ wr.frozen? ⟨g, a + hl + i, none⟩ = false := by
          have hO' := HO.out
          rw [← hlenS] at hO'
          obtain ⟨b', off', hb', hlt', hc'⟩ := hO'.rd (by rw [hlenS]; exact hpos)
          injection hb' with hb'
          injection hb' with e1 e2
          subst e1 e2
          have h1 := hc' (a + hl + i) (by rw [hlenS]; have := HGL.out; omega) 0 _ rfl
          rw [hat] at h1
          refine ⟨by simpa using h1, hlt', ?_⟩
          rcases hO'.2 with ⟨hv, h0⟩ | ⟨g', cap', cur', hv, hb, hg', _⟩
          · cases hv
          · injection hv with h1 _ _
            injection h1 with h1
            injection h1 with h1 _
            subst h1
            exact Go.frozen_of_row wr g (a + hl + i) cur' _ hg'
        have HST := Lib.hid (show ∀ y : Nat, OwnU (wr.setCell ⟨g, a + hl + i, none⟩ (.int .u64 (y : Int))) base (.slice (some ⟨g, 0, none⟩) G.length c) ((pre ++ hdW o ++ mvS P o.parts i ++ post).set (a + hl + i) y) ∧ wr.grownBy (wr.setCell ⟨g, a + hl + i, none⟩ (.int .u64 (y : Int))) (some g) from fun y => by
          have hO' := HO.out
          rw [← hlenS] at hO' ⊢
          exact hO'.store)
        have HSET := Lib.hid hset
        have HMVS := Lib.hid (mvS_set P o.parts (show i < o.parts.length by omega))
        have HMr := Lib.hid ((HM.out.below HB03.out).kept HGR.out (fun e => by injection e with e; exact HNE.out e.symm))
        obtain ⟨x, hx⟩ : ∃ x, nth o.parts i = x := ⟨_, rfl⟩
        rw [hx] at cq hx64 cG HMVS
        have j0 : (0 : Int) ≤ (i : Int) := by omega
        have j1 : (i : Int) < (pl : Int) := by omega
        have hfs := HFS.out
        have m2 : (0 : Int) ≤ fs + (i : Int) := by omega
        have m3 : fs + (i : Int) < (G.length : Int) := by have := HGL.out; omega
        have m4 : (fs + (i : Int)).toNat = a + hl + i := by omega
        have m5 : fs + (i : Int) ≤ 4000 := by have := HGL.out; omega
        clear hcp hcq hlenS hat hset hx hfs hpL
        go_wp2_with fail
        refine (moved_any P pb n x wr HMr.out HP.out hx64).mono ?_
        rintro e w6 ⟨rfl, rfl⟩
        go_wp2_with fail
        refine ⟨⟨i + 1, by omega, by go_num, ?_, ?_⟩, by simp [intOf]; omega⟩
        · have h1 := (HST.out (mv P x)).1
          rw [HSET.out, HMVS.out] at h1
          exact h1
        · exact grown_step HGR.out (HST.out (mv P x)).2 (.inl rfl)
      · have hil : i = pl := by omega
        have HIL := Lib.hid hil
        have d0 : decide ((i : Int) < (pl : Int)) = false := decide_eq_false (by omega)
        clear hil
        go_wp2_with fail
        refine bodyPost_end (v := .tuple #[]) (results_none rfl _ _ _) rfl ⟨rfl, ?_, grown_step (grown_below (g := some g) HB03.out) HGR.out (.inl rfl)⟩
        have h1 := HO.out
        have e : mvS P o.parts i = o.parts.map (mv P) := by rw [HIL.out, ← HPL.out]; exact mvS_all P o.parts
        rw [e] at h1
        have e2 : pre ++ wordsO (mvO P o) ++ post = pre ++ hdW o ++ o.parts.map (mv P) ++ post := by rw [wordsO_mv]; simp only [List.append_assoc]
        rw [e2]
        exact h1
  · exact (hno ⟨a, rfl, HRD.out⟩).elim
end Go.Proofs.Ytkdbnkkdohkhjaa
namespace Go.Proofs.Ytkdbnkkdohkhjaa
open Go.RowKit
set_option linter.unusedVariables false
theorem mvO_len (P : List (Nat × Nat)) (o : Ob) : (wordsO (mvO P o)).length = (wordsO o).length := by
  rw [wordsO_mv, wordsO_hd, List.length_append, List.length_append, List.length_map]
theorem mvO_good {P : List (Nat × Nat)} (hP : ∀ a n, (a, n) ∈ P → n < 4000) {o : Ob} (h : GoodOb o) : GoodOb (mvO P o) := by
  refine ⟨withParts_ok h.ok (by simp), h.num, fun x hx => ?_⟩
  obtain ⟨p, hp, rfl⟩ := List.mem_map.1 (show x ∈ o.parts.map (mv P) from hx)
  exact mv_lt hP (h.parts p hp)
/-- the objects of some indices are aimed -/
def aimF (P : List (Nat × Nat)) (S : Nat → Bool) (L : List Ob) : List Ob := L.mapIdx fun i o => if S i then mvO P o else o
theorem aimF_len (P : List (Nat × Nat)) (S : Nat → Bool) (L : List Ob) : (aimF P S L).length = L.length := by simp [aimF]
theorem aimF_get {P : List (Nat × Nat)} {S : Nat → Bool} {L : List Ob} {i : Nat} {o : Ob} (h : L[i]? = some o) : (aimF P S L)[i]? = some (if S i then mvO P o else o) := by
  simp [aimF, List.getElem?_mapIdx, h]
theorem aimF_none (P : List (Nat × Nat)) (S : Nat → Bool) (L : List Ob) (h : ∀ i, i < L.length → S i = false) : aimF P S L = L := by
  apply List.ext_getElem?
  intro i
  by_cases hi : i < L.length
  · rw [aimF_get (List.getElem?_eq_getElem hi), h i hi, List.getElem?_eq_getElem hi]; rfl
  · rw [List.getElem?_eq_none (by rw [aimF_len]; omega), List.getElem?_eq_none (by omega)]
theorem aimF_set {P : List (Nat × Nat)} {S S' : Nat → Bool} {L : List Ob} {i : Nat} {o : Ob} (h : L[i]? = some o) (h0 : S i = false) (h1 : S' i = true) (hs : ∀ j, j ≠ i → S' j = S j) : (aimF P S L).set i (mvO P o) = aimF P S' L := by
  have hil := (List.getElem?_eq_some_iff.1 h).1
  apply List.ext_getElem?
  intro j
  by_cases hj : j < L.length
  · have e2 : L[j]? = some L[j] := List.getElem?_eq_getElem hj
    rw [aimF_get e2]
    by_cases e : i = j
    · subst e
      rw [List.getElem?_set_self (by rw [aimF_len]; exact hil), h1]
      rw [h] at e2
      injection e2 with e2
      rw [← e2]
      rfl
    · rw [List.getElem?_set_ne e, aimF_get e2, hs j (fun e3 => e e3.symm)]
  · rw [List.getElem?_eq_none (by rw [List.length_set, aimF_len]; omega), List.getElem?_eq_none (by rw [aimF_len]; omega)]
theorem aimF_good {P : List (Nat × Nat)} (hP : ∀ a n, (a, n) ∈ P → n < 4000) {S : Nat → Bool} {L : List Ob} (h : ∀ o ∈ L, GoodOb o) : ∀ o ∈ aimF P S L, GoodOb o := by
  intro o ho
  obtain ⟨i, hi⟩ := List.mem_iff_getElem?.1 ho
  have hil : i < L.length := by have := (List.getElem?_eq_some_iff.1 hi).1; rw [aimF_len] at this; exact this
  rw [aimF_get (List.getElem?_eq_getElem hil)] at hi
  injection hi with hi
  subst hi
  have hg := h L[i] (List.getElem_mem _)
  split
  · exact mvO_good hP hg
  · exact hg
theorem posO_aimF (P : List (Nat × Nat)) (S : Nat → Bool) (L : List Ob) : ∀ k, posO (aimF P S L) k = posO L k := by
  intro k
  induction k with
  | zero => rfl
  | succ k ih =>
    by_cases hk : k < L.length
    · have e2 : L[k]? = some L[k] := List.getElem?_eq_getElem hk
      rw [posO_succ (aimF_get e2), posO_succ e2, ih]
      congr 1
      split
      · exact mvO_len P _
      · rfl
    · have h1 : posO (aimF P S L) (k + 1) = posO (aimF P S L) k := by unfold posO; rw [List.take_of_length_le (by rw [aimF_len]; omega), List.take_of_length_le (by rw [aimF_len]; omega)]
      have h2 : posO L (k + 1) = posO L k := by unfold posO; rw [List.take_of_length_le (by omega), List.take_of_length_le (by omega)]
      rw [h1, h2, ih]
theorem flatO_len_posO (L : List Ob) : (flatO L).length = posO L L.length := by unfold posO; rw [List.take_length]
theorem aimF_flat_len (P : List (Nat × Nat)) (S : Nat → Bool) (L : List Ob) : (flatO (aimF P S L)).length = (flatO L).length := by
  rw [flatO_len_posO, aimF_len, posO_aimF, ← flatO_len_posO]
/-- a list's words, split at an object -/
theorem flat_split {L : List Ob} {i : Nat} {o : Ob} (h : L[i]? = some o) : flatO L = flatO (L.take i) ++ wordsO o ++ flatO (L.drop (i + 1)) := by
  obtain ⟨hl, he⟩ := List.getElem?_eq_some_iff.1 h
  conv => lhs; rw [← List.take_append_drop i L, List.drop_eq_getElem_cons hl, he]
  rw [flatO_append, flatO_cons, List.append_assoc]
theorem flat_set {L : List Ob} {i : Nat} {o : Ob} (h : L[i]? = some o) (o' : Ob) : flatO (L.set i o') = flatO (L.take i) ++ wordsO o' ++ flatO (L.drop (i + 1)) := by
  obtain ⟨hl, he⟩ := List.getElem?_eq_some_iff.1 h
  rw [List.set_eq_take_append_cons_drop, if_pos hl, flatO_append, flatO_cons, List.append_assoc]
/-- one aim, on the list of objects -/
theorem aim_list {P : List (Nat × Nat)} {S S' : Nat → Bool} {L : List Ob} {i : Nat} {o : Ob} (h : L[i]? = some o) (h0 : S i = false) (h1 : S' i = true) (hs : ∀ j, j ≠ i → S' j = S j) :
    ∃ pre post, flatO (aimF P S L) = pre ++ wordsO o ++ post ∧ pre.length = posO L i ∧ flatO (aimF P S' L) = pre ++ wordsO (mvO P o) ++ post := by
  have hg := aimF_get (P := P) (S := S) h
  rw [h0] at hg
  refine ⟨_, _, flat_split hg, ?_, ?_⟩
  · show posO (aimF P S L) i = posO L i
    exact posO_aimF P S L i
  · rw [← aimF_set (P := P) h h0 h1 hs]
    exact flat_set hg _
/-- the places of the copies -/
theorem cpH_pos {l : List Ob} {h : List Nat} {K : List Nat} {kf : Nat} (hh : h = flatO l) (hkf : kf ≤ l.length) {j : Nat} (hj : j ≤ K.length) : (cpH l (flatO (l.take kf)) K j).length = posO (l.take kf ++ oK l K) (kf + j) := by
  unfold cpH posO
  rw [← flatO_append]
  congr 2
  have e : (l.take kf).length = kf := by rw [List.length_take]; omega
  have e1 : (l.take kf).take (kf + j) = l.take kf := List.take_of_length_le (by omega)
  rw [List.take_append, e1, e, Nat.add_sub_cancel_left]
  unfold oK
  rw [List.map_take]
theorem oK_get {l : List Ob} {K : List Nat} {j k : Nat} {o : Ob} (hk : K[j]? = some k) (ho : l[k]? = some o) : (oK l K)[j]? = some o := by
  unfold oK
  rw [List.getElem?_map, hk]
  simp [List.getD, ho]
theorem L0_get_copy {l : List Ob} {K : List Nat} {kf j k : Nat} {o : Ob} (hkf : kf ≤ l.length) (hk : K[j]? = some k) (ho : l[k]? = some o) : (l.take kf ++ oK l K)[kf + j]? = some o := by
  have e : (l.take kf).length = kf := by rw [List.length_take]; omega
  rw [List.getElem?_append_right (by omega), e, Nat.add_sub_cancel_left]
  exact oK_get hk ho
theorem L0_get_old' {l : List Ob} {K : List Nat} {kf k : Nat} (hk : k < kf) (hkf : kf ≤ l.length) : (l.take kf ++ oK l K)[k]? = l[k]? := by
  have e : (l.take kf).length = kf := by rw [List.length_take]; omega
  rw [List.getElem?_append_left (by omega), List.getElem?_take, if_pos hk]
/-- the copies fit: distinct objects from kf on are no longer than what stood there -/
theorem copies_fit {l : List Ob} : ∀ {K : List Nat} {kf : Nat}, K.Nodup → (∀ k ∈ K, kf ≤ k ∧ k < l.length) → (flatO (l.take kf)).length + (flatO (oK l K)).length ≤ (flatO l).length := by
  have hsum : ∀ (L : List Ob), (flatO L).length = (L.map fun o => (wordsO o).length).sum := fun L => by
    induction L with
    | nil => rfl
    | cons o L ih => rw [flatO_cons, List.length_append, ih]; simp
  have key : ∀ (n : Nat) (K : List Nat), K.Nodup → (∀ k ∈ K, k < n) → n ≤ l.length → ∀ kf, (∀ k ∈ K, kf ≤ k) → kf ≤ n → (flatO (l.take kf)).length + (flatO (oK l K)).length ≤ (flatO (l.take n)).length := by
    intro n
    induction n with
    | zero =>
      intro K _ hK _ kf _ hkf
      have : K = [] := List.eq_nil_iff_forall_not_mem.2 (fun k hk => by have := hK k hk; omega)
      subst this
      obtain rfl : kf = 0 := by omega
      simp [oK, flatO]
    | succ n ih =>
      intro K hn hK hnl kf hkf hkn
      have hs := posO_succ (l := l) (k := n) (List.getElem?_eq_getElem (show n < l.length by omega))
      by_cases hm : n ∈ K
      · have h1 : (K.erase n).Nodup := hn.erase n
        have hkfn := hkf n hm
        have h2 := ih (K.erase n) h1 (fun k hk => by
          have hk2 := List.mem_of_mem_erase hk
          have hne : k ≠ n := fun e => (List.Nodup.not_mem_erase hn) (e ▸ hk)
          have := hK k hk2
          omega) (by omega) kf (fun k hk => hkf k (List.mem_of_mem_erase hk)) hkfn
        have hp : K.Perm (n :: K.erase n) := List.perm_cons_erase hm
        have h3 : (flatO (oK l K)).length = (wordsO l[n]).length + (flatO (oK l (K.erase n))).length := by
          rw [hsum, hsum]
          have hpp : ((oK l K).map fun o => (wordsO o).length).Perm ((oK l (n :: K.erase n)).map fun o => (wordsO o).length) := by
            unfold oK
            exact (hp.map _).map _
          rw [hpp.sum_nat]
          simp [oK, List.getD, show n < l.length by omega]
        unfold posO at hs
        omega
      · by_cases hkn2 : kf ≤ n
        · have h2 := ih K hn (fun k hk => by
            have := hK k hk
            have hne : k ≠ n := fun e => hm (e ▸ hk)
            omega) (by omega) kf hkf hkn2
          unfold posO at hs
          omega
        · obtain rfl : kf = n + 1 := by omega
          have : K = [] := List.eq_nil_iff_forall_not_mem.2 (fun k hk => by have := hK k hk; have := hkf k hk; omega)
          subst this
          simp [oK, flatO]
  intro K kf hn hK
  by_cases hkl : kf ≤ l.length
  · have := key l.length K hn (fun k hk => (hK k hk).2) (Nat.le_refl _) kf (fun k hk => (hK k hk).1) hkl
    rw [List.take_length] at this
    exact this
  · have : K = [] := List.eq_nil_iff_forall_not_mem.2 (fun k hk => by have := hK k hk; omega)
    subst this
    rw [List.take_of_length_le (by omega)]
    simp [oK, flatO]
theorem plc_mem {l : List Ob} {g K : List Nat} {j : Nat} : ∀ {n : Nat}, j < n → (posO l (K.getD j 0), (cpH l g K j).length) ∈ plc l g K n := by
  intro n
  induction n with
  | zero => intro h; omega
  | succ n ih =>
    intro h
    rcases Nat.lt_or_ge j n with h1 | h1
    · exact List.mem_cons_of_mem _ (ih h1)
    · obtain rfl : j = n := by omega
      exact List.mem_cons_self
theorem aimF_congr (P : List (Nat × Nat)) {S S' : Nat → Bool} {L : List Ob} (h : ∀ i, i < L.length → S i = S' i) : aimF P S L = aimF P S' L := by
  apply List.ext_getElem?
  intro i
  by_cases hi : i < L.length
  · rw [aimF_get (List.getElem?_eq_getElem hi), aimF_get (List.getElem?_eq_getElem hi), h i hi]
  · rw [List.getElem?_eq_none (by rw [aimF_len]; omega), List.getElem?_eq_none (by rw [aimF_len]; omega)]
theorem posO_old {l X : List Ob} {kf k : Nat} (hk : k ≤ kf) (hkf : kf ≤ l.length) : posO (l.take kf ++ X) k = posO l k := by
  unfold posO
  rw [List.take_append_of_le_length (by rw [List.length_take]; omega), List.take_take]
  congr 3
  omega
/-- the late ones, up to the i-th -/
def gcT (l : List Ob) (kf : Nat) (lt : List Int) (i : Nat) : Nat → Bool := fun q => decide (kf ≤ q) || decide (((posO l q : Nat) : Int) ∈ lt.take i)
theorem gcT_step {l : List Ob} {kf : Nat} {lt : List Int} {i k : Nat} (hkf : kf ≤ l.length) (hx : lt[i]? = some ((posO l k : Nat) : Int)) (hk : k < kf) (hs : ∀ (j : Nat) (y : Int), j < i → lt[j]? = some y → y < ((posO l k : Nat) : Int)) : gcT l kf lt i k = false ∧ gcT l kf lt (i + 1) k = true ∧ ∀ q, q ≠ k → gcT l kf lt (i + 1) q = gcT l kf lt i q := by
  have htk : lt.take (i + 1) = lt.take i ++ [((posO l k : Nat) : Int)] := by rw [List.take_add_one, hx]; rfl
  refine ⟨?_, ?_, fun q hq => ?_⟩
  · unfold gcT
    rw [decide_eq_false (by omega), Bool.false_or]
    refine decide_eq_false (fun hm => ?_)
    obtain ⟨j, hj⟩ := List.mem_iff_getElem?.1 hm
    rw [List.getElem?_take] at hj
    by_cases hji : j < i
    · rw [if_pos hji] at hj
      have := hs j _ hji hj
      omega
    · rw [if_neg hji] at hj
      cases hj
  · unfold gcT
    rw [htk]
    simp
  · unfold gcT
    rw [htk]
    by_cases hkq : kf ≤ q
    · simp [hkq]
    · have hne : ¬ ((posO l q : Nat) : Int) = ((posO l k : Nat) : Int) := fun e => hq (posO_inj (l := l) (by omega) (by omega) (by omega))
      simp [hkq, hne]
end Go.Proofs.Ytkdbnkkdohkhjaa
namespace Go.Proofs.Ytkdbnkkdohkhjaa
open Go.RowKit
set_option linter.unusedVariables false
/-- h[:b] -/
theorem cutH_to (A : Option Addr) (c : Nat) (l : List Nat) (w0 : World) (hS : Su w0 (.slice A l.length c) l) (b : Nat) (hb : b ≤ l.length) :
    ∃ XA, (∀ w, (Instr.sliceAt 23 (.slice A l.length c) none (some (.int .i64 (b : Int))) none).run Try.prog w = .ok (.slice XA b c) w) ∧ Su w0 (.slice XA (l.take b).length c) (l.take b) := by
  obtain ⟨A0, c0, e, h1, h2, h3, h4⟩ := hS
  injection e with e1 _ e3
  subst e1 e3
  have hl : (l.take b).length = b := by simp; omega
  refine ⟨if c = 0 then A else A.map (·.add (0 * 1)), fun w => ?_, ?_⟩
  · rw [run_sliceAt_slice _ _ _ _ _ _ elemH, run_slice_h _ _ _ _ _ elemH _ _ (by omega) (by omega), sizeH]
    simp only [Result.andThen, sliced, Int.toNat_natCast, Nat.sub_zero]
  · refine ⟨_, _, rfl, by omega, by omega, fun hn => ?_, fun h0 => ?_⟩
    · rw [hl]
      by_cases e : c = 0
      · omega
      · rw [if_neg e] at hn
        cases A with
        | none => have := h3 rfl; omega
        | some _ => cases hn
    · rw [hl] at h0
      obtain ⟨bk, off, rfl, hlt, hc⟩ := h4 (by omega)
      rw [if_neg (by omega)]
      refine ⟨bk, off, by simp [Go.WideShapes.add_plain], hlt, fun k hk j u hu => ?_⟩
      rw [hl] at hk
      match j, hu with
      | 0, hu =>
        have := hc k (by omega) 0 (.int .u64 ((nth l k : Nat) : Int)) rfl
        have e2 : nth (l.take b) k = nth l k := nth_take _ hk
        simp only [uC, List.getElem?_cons_zero, Option.some.injEq] at hu
        subst hu
        rw [e2]
        exact this
theorem gc_results {tmps : Array Value} {wz : World} {H : Nat} {u0 u1 u2 v13 : Value} (t12 : tmps.getD 12 undef = .pointer (some ⟨H, 0, none⟩)) (t13 : tmps.getD 13 undef = v13)
    (z0 : wz.cell? ⟨H, 0, none⟩ = some u0) (z1 : wz.cell? ⟨H, 1, none⟩ = some u1) (z2 : wz.cell? ⟨H, 2, none⟩ = some u2) :
    (results Try.f48 tmps).run Try.prog wz = .ok (.tuple #[.agg #[u0, u1, u2], v13]) wz := by
  simp only [Array.getD_eq_getD_getElem?] at t12 t13
  simp [results, Try.results48, go_sem, t12, t13, z0, z1, z2]
def put3 (wx : World) (b : Nat) (u0 u1 u2 : Value) : World := ((wx.setCell ⟨b, 0, none⟩ u0).setCell ⟨b, 1, none⟩ u1).setCell ⟨b, 2, none⟩ u2
theorem put3_cells {wx : World} {b : Nat} {v0 v1 v2 : Value} (h0 : wx.cell? ⟨b, 0, none⟩ = some v0) (h1 : wx.cell? ⟨b, 1, none⟩ = some v1) (h2 : wx.cell? ⟨b, 2, none⟩ = some v2) (u0 u1 u2 : Value) :
    (put3 wx b u0 u1 u2).cell? ⟨b, 0, none⟩ = some u0 ∧ (put3 wx b u0 u1 u2).cell? ⟨b, 1, none⟩ = some u1 ∧ (put3 wx b u0 u1 u2).cell? ⟨b, 2, none⟩ = some u2 ∧ wx.grownBy (put3 wx b u0 u1 u2) (some b) := by
  have x0 : (wx.cell? ⟨b, 0, none⟩).isSome = true := by rw [h0]; rfl
  have x1 : (wx.cell? ⟨b, 1, none⟩).isSome = true := by rw [h1]; rfl
  have x2 : (wx.cell? ⟨b, 2, none⟩).isSome = true := by rw [h2]; rfl
  unfold put3
  refine ⟨?_, ?_, ?_, ?_⟩
  · simp [go_sem, x0]
  · simp [go_sem, x1]
  · simp [go_sem, x2]
  · exact grown_set (grown_set (grown_set (grown_self _ _) _) _) _
/-- what a collection of a heap yields -/
def gcS (l : List Ob) (kf : Nat) (lt : List Int) : Nat → Bool := fun i => decide (kf ≤ i) || decide (((posO l i : Nat) : Int) ∈ lt)
def gcP (l : List Ob) (kf : Nat) (K : List Nat) : List (Nat × Nat) := plc l (flatO (l.take kf)) K K.length
def gcL (l : List Ob) (kf : Nat) (K : List Nat) (lt : List Int) : List Ob := aimF (gcP l kf K) (gcS l kf lt) (l.take kf ++ oK l K)
def GcPost (l : List Ob) (kf : Nat) (lt : List Int) (ws roots : List Nat) (row : Option Nat) (w : World) (e : Ending) (w' : World) : Prop := ∃ K A c B d, RK l ((posO l kf : Nat) : Int) ws K [] ∧ e = .returned (.tuple #[.agg #[.slice A (flatO (gcL l kf K lt)).length c, .int .i64 (((flatO (gcL l kf K lt)).length : Nat) : Int), .slice none 0 0], .slice B roots.length d]) ∧
  OwnU w' w.heap.size (.slice A (flatO (gcL l kf K lt)).length c) (flatO (gcL l kf K lt)) ∧ OwnU w' w.heap.size (.slice B roots.length d) (roots.map (mv (gcP l kf K))) ∧ w.grownBy w' row ∧ ∀ k, (Value.slice A (flatO (gcL l kf K lt)).length c).ownBlock = some k → (Value.slice B roots.length d).ownBlock ≠ some k
set_option maxHeartbeats 8000000 in
set_option maxRecDepth 100000 in
theorem collect_any (h : List Nat) (l : List Ob) (C : Nat → List Value) (old : Int) (kf : Nat) (lt : List Int) (ws roots : List Nat) (hA oA wA rA tA : Option Addr) (hc on oc wc rc tc base T mb : Nat) (w : World)
    (hH : Su w (.slice hA h.length hc) h) (hO : ObsOf h l) (hl4 : h.length ≤ 4000) (hI : IdxT w base T mb l C) (hT : T ≤ w.heap.size) (hkf : kf ≤ l.length) (hW : QW w T (.slice wA ws.length wc) ws) (hwok : ∀ p ∈ ws, wordOk l p ∧ p < 18446744073709551616) (hpt : ∀ (k : Nat) (o : Ob), l[k]? = some o → ∀ p ∈ o.parts, wordOk l p) (hws : ws.length ≤ 2000000)
    (hR : Su w (.slice rA roots.length rc) roots) (hRT : 0 < roots.length → ∀ k, (Value.slice rA roots.length rc).ownBlock = some k → (Value.slice wA ws.length wc).ownBlock ≠ some k) (r64 : All64 roots) (hrl : roots.length ≤ 100000) (hL : Rd w 1 (tmC (lst lt)) tA lt.length) (hLT : 0 < lt.length → ∀ k, (Value.slice tA lt.length tc).ownBlock = some k → (Value.slice wA ws.length wc).ownBlock ≠ some k) (hlt : ∀ (i : Nat) (x : Int), lt[i]? = some x → (∃ k, k < kf ∧ x = ((posO l k : Nat) : Int)) ∧ ∀ (j : Nat) (y : Int), j < i → lt[j]? = some y → y < x) (hll : lt.length ≤ 100000) :
    Calls Try.prog 48 #[.agg #[.slice hA h.length hc, .int .i64 old, .slice oA on oc], .map (some mb), .slice wA ws.length wc, .slice rA roots.length rc, .int .i64 ((posO l kf : Nat) : Int), .slice tA lt.length tc] w (GcPost l kf lt ws roots (Value.slice wA ws.length wc).ownBlock w) := by
  obtain ⟨row, hrow⟩ : ∃ row, (Value.slice wA ws.length wc).ownBlock = row := ⟨_, rfl⟩
  have HROW := Lib.hid hrow
  rw [hrow] at hRT hLT
  have HRTB := Lib.hid hRT
  have HLTB := Lib.hid hLT
  clear hRT hLT
  have HH := Lib.hid hH
  have HO := Lib.hid hO
  have HI := Lib.hid hI
  have HW := Lib.hid hW
  have HWOK := Lib.hid hwok
  have HPT := Lib.hid hpt
  have HR := Lib.hid hR
  have HR64 := Lib.hid r64
  have HL := Lib.hid hL
  have HLTT := Lib.hid hlt
  have hll4 : l.length ≤ 4000 := by have h1 := len_flatO l; rw [← hO.1] at h1; omega
  have HPOS := Lib.hid (show ∀ k, posO l k ≤ 4000 from fun k => by have h1 := posO_le l k; rw [← hO.1] at h1; omega)
  obtain ⟨fr, hfr⟩ : ∃ fr, posO l kf = fr := ⟨_, rfl⟩
  have HFR := Lib.hid hfr
  have hfl : fr ≤ h.length := by rw [← hfr, hO.1]; exact posO_le l kf
  have htk : h.take fr = flatO (l.take kf) := by
    rw [← hfr]
    have h1 : h = flatO (l.take kf) ++ flatO (l.drop kf) := by rw [← flatO_append, List.take_append_drop]; exact hO.1
    unfold posO
    conv => lhs; rw [h1]
    exact List.take_left
  have HTK := Lib.hid htk
  obtain ⟨XA, hcut, hSX⟩ := cutH_to hA hc h w hH fr hfl
  rw [htk] at hSX
  have hgl : (flatO (l.take kf)).length = fr := hfr
  rw [hgl] at hSX
  have HSX := Lib.hid hSX
  have HGL := Lib.hid hgl
  rw [hrow, hfr]
  obtain ⟨W1, hW1⟩ : ∃ W1, W1 = (w.alloc (.cells #[.slice hA h.length hc, .int .i64 old, .slice oA on oc] 26)).alloc (.cells #[.slice none 0 0, .int .i64 0, .slice none 0 0] 26) := ⟨_, rfl⟩
  have HB1 := Lib.hid (show Below w.heap.size w W1 by rw [hW1]; exact ((Below.refl _ _).alloc (Nat.le_refl _) _).alloc (by simp) _)
  have HZ1 := Lib.hid (show W1.heap.size = w.heap.size + 2 by rw [hW1]; simp)
  have HBOX := Lib.hid (show W1.cell? ⟨w.heap.size + 1, 0, none⟩ = some (.slice none 0 0) ∧ W1.cell? ⟨w.heap.size + 1, 1, none⟩ = some (.int .i64 0) ∧ W1.cell? ⟨w.heap.size + 1, 2, none⟩ = some (.slice none 0 0) ∧ ∀ o, W1.frozen? ⟨w.heap.size + 1, o, none⟩ = false from by
    rw [hW1]
    refine ⟨by simp [go_sem], by simp [go_sem], by simp [go_sem], fun o => by simp [go_sem]⟩)
  clear hH hO hI hW hwok hpt hR r64 hL hlt hrow hfr htk hSX hgl
  go_enter Try.func48, Try.ntmps48
  go_wp2_with fail
  rw [← hW1]
  clear hW1
  have hcl := cloneH_any XA hc (flatO (l.take kf)) W1 (by rw [HGL.out]; exact HSX.out.below HB1.out) (by rw [HGL.out]; omega)
  rw [HGL.out] at hcl
  refine hcl.mono ?_
  clear hcl
  rintro e w2 ⟨A2, c2, rfl, ho2, hb2⟩
  have HO2 := Lib.hid ho2
  have HB2 := Lib.hid hb2
  have HB02 := Lib.hid (HB1.out.trans (hb2.mono HB1.out.size))
  have hz2 := hb2.size
  clear ho2 hb2
  go_wp2_with fail
  have hrc := reach_any l C ((fr : Nat) : Int) ws base T mb wA wc w2 (HI.out.below HB02.out) (by have := HB02.out.size; omega) (HW.out.below HB02.out) HWOK.out HO.out.2 HPT.out hll4 HPOS.out hws
  rw [HROW.out] at hrc
  refine hrc.mono ?_
  clear hrc
  rintro e w3 ⟨K, ov, hK, rfl, hrw, hI3, hg3⟩
  have HK := Lib.hid hK
  have HI3 := Lib.hid hI3
  have HG3 := Lib.hid hg3
  have HRW3 := Lib.hid hrw
  obtain ⟨oA3, oc3, rfl, _, _, _⟩ := own_any hrw
  have hz3 := hg3.size
  have HRT' := Lib.hid (show ∀ k, row = some k → k < w.heap.size from fun k hk => (HW.out.2 k (by rw [HROW.out]; exact hk)).2)
  have HO3 := Lib.hid (HO2.out.grown hg3 (fun k hk e => by have h1 := (HO2.out.blk k hk).1; have h2 := HRT'.out k e; have h3 := HZ1.out; omega))
  have hKL := hK.len
  have HFIT := Lib.hid (show (cpH l (flatO (l.take kf)) K K.length).length ≤ 4000 from by
    have h1 := copies_fit (l := l) (K := K) (kf := kf) hK.nodup (fun k hk => ⟨by
      have h2 := (hK.lt k hk).2
      rcases Nat.lt_or_ge k kf with h3 | h3
      · have := posO_lt (l := l) kf h3 hkf
        have := HFR.out
        omega
      · exact h3, (hK.lt k hk).1⟩)
    rw [← HO.out.1] at h1
    unfold cpH
    rw [List.take_length, List.length_append]
    omega)
  clear hK hrw hI3 hg3
  go_wp2_with fail
  have hcp := copied_any l C (flatO (l.take kf)) K A2 oA3 c2 oc3 W1.heap.size w2.heap.size base T mb w3 (by rw [HGL.out]; exact HO3.out) HRW3.out HI3.out HK.out.nodup (fun k hk => (HK.out.lt k hk).1) HO.out.2 HPOS.out HFIT.out (by omega) (by omega)
  rw [HGL.out] at hcp
  refine hcp.mono ?_
  clear hcp
  rintro e w4 ⟨A4, c4, pb, rfl, ho4, hM4, hpb, hb4, hne4⟩
  have HO4 := Lib.hid ho4
  have HM4 := Lib.hid hM4
  have HB4 := Lib.hid hb4
  have HNE4 := Lib.hid hne4
  have hz4 := hb4.size
  have HG04 := Lib.hid (show w.grownBy w4 row from grown_step (grown_step (grown_below (g := row) HB02.out) HG3.out (.inl rfl)) (grown_below (g := none) hb4) (.inr (by simp)))
  clear ho4 hM4 hb4 hne4
  obtain ⟨DD, hDD, hDs, hDg⟩ := HM4.out
  have HDD := Lib.hid hDD
  have HDG := Lib.hid hDg
  clear hDD hDs hDg
  have hG0 : cpH l (flatO (l.take kf)) K K.length = flatO (l.take kf ++ oK l K) := by
    unfold cpH
    rw [List.take_length, flatO_append]
  rw [hG0] at HO4 HNE4 HFIT
  obtain ⟨P, hP⟩ : ∃ P, gcP l kf K = P := ⟨_, rfl⟩
  have hP2 : plc l (flatO (l.take kf)) K K.length = P := hP
  obtain ⟨L0, hL0⟩ : ∃ L0, l.take kf ++ oK l K = L0 := ⟨_, rfl⟩
  have HPM := Lib.hid (show ∀ (j k : Nat), K[j]? = some k → ∃ n, (posO l k, n) ∈ P from fun j k hk => by
    have hj := (List.getElem?_eq_some_iff.1 hk).1
    have := plc_mem (l := l) (g := flatO (l.take kf)) (K := K) hj
    rw [hP2] at this
    have hgd : K.getD j 0 = k := by simp [List.getD, hk]
    rw [hgd] at this
    exact ⟨_, this⟩)
  have HPK := Lib.hid (show ∀ a n, (a, n) ∈ P → ∃ j k o, K[j]? = some k ∧ l[k]? = some o ∧ a = posO l k ∧ n = posO L0 (kf + j) ∧ L0[kf + j]? = some o ∧ n < 4000 from fun a n h => by
    rw [← hP2] at h
    obtain ⟨j, hj, h1, h2⟩ := plc_keys h
    have hk : K[j]? = some K[j] := List.getElem?_eq_getElem hj
    have hkl := (HK.out.lt K[j] (List.getElem_mem _)).1
    have ho : l[K[j]]? = some l[K[j]] := List.getElem?_eq_getElem hkl
    have hgd : K.getD j 0 = K[j] := by simp [List.getD, hj]
    rw [cpH_pos HO.out.1 hkf (by omega), hL0] at h2
    have hget := L0_get_copy (K := K) (kf := kf) hkf hk ho
    rw [hL0] at hget
    refine ⟨j, K[j], l[K[j]], hk, ho, by rw [h1, hgd], h2, hget, ?_⟩
    have hlt := posO_lt (l := L0) (j := kf + j) L0.length (List.getElem?_eq_some_iff.1 hget).1 (Nat.le_refl _)
    rw [← flatO_len_posO] at hlt
    have hf := HFIT.out
    rw [hL0] at hf
    omega)
  have HGL0 := Lib.hid (show ∀ o ∈ L0, GoodOb o from fun o ho => by
    rw [← hL0] at ho
    rcases List.mem_append.1 ho with h | h
    · exact HO.out.2 o (List.mem_of_mem_take h)
    · unfold oK at h
      obtain ⟨k, hk, rfl⟩ := List.mem_map.1 h
      have hkl := (HK.out.lt k hk).1
      have : l.getD k goneO = l[k] := by simp [List.getD, hkl]
      rw [this]
      exact HO.out.2 _ (List.getElem_mem _))
  rw [hP2] at HM4 HDG
  rw [hL0] at HO4 HNE4 HFIT hG0
  have HP := Lib.hid hP
  have HL0 := Lib.hid hL0
  obtain ⟨N0, hN0⟩ : ∃ N0, (flatO L0).length = N0 := ⟨_, rfl⟩
  rw [hN0] at HO4 HNE4 HFIT
  have HN0 := Lib.hid hN0
  rw [hG0, hN0]
  clear hG0 hP hP2 hL0 hN0
  go_wp2_with (first | (at_range; refine wpList_range_own _ rfl _ 136 rfl 3 3 lawI Try.underlying136 _ pb K.length DD rfl HDD.out ?_; intro w0 hrg0 hg0 hs0; have HRG := Lib.hid hrg0; have HG0 := Lib.hid hg0; have HS0 := Lib.hid hs0; clear hrg0 hg0 hs0) | go_in)
  go_frame
  obtain ⟨r, hr⟩ : ∃ r, w4.heap.size = r := ⟨_, rfl⟩
  have HR4 := Lib.hid hr
  rw [hr] at HRG
  rw [hr]
  clear hr
  go_loopw [17] (fun _ wr => ∃ left cnt S, wr.ranges Try.prog 3 (plainElem Try.prog 3) pb r K.length DD left cnt ∧ (∀ i, i < kf → S i = false) ∧ (∀ (j k : Nat), K[j]? = some k → S (kf + j) = !(left (.int .i64 ((posO l k : Nat) : Int)))) ∧ (∀ y, Wf y → left (.int .i64 y) = true → lookI P y ≠ none) ∧ OwnU wr W1.heap.size (.slice A4 N0 c4) (flatO (aimF P S L0)) ∧ w4.grownBy wr (Value.slice A4 N0 c4).ownBlock) (fun _ wr => wr.rangeLeft pb r)
  case atStart =>
    refine ⟨_, _, fun _ => false, HRG.out, fun i hi => rfl, fun j k hk => ?_, fun y hy hl => ?_, ?_, grown_step (grown_self w4 _) HG0.out (.inr (by simp))⟩
    · have hwf : Wf ((posO l k : Nat) : Int) := Wf.of (by omega) (by have := HPOS.out k; omega)
      have h1 := (HDG.out _ hwf).1
      obtain ⟨n, hn⟩ := HPM.out j k hk
      obtain ⟨y, hy⟩ := lookI_some ⟨n, hn⟩
      rw [hy] at h1
      rw [h1]
      rfl
    · have h1 := (HDG.out y hy).1
      rw [h1] at hl
      intro e
      rw [e] at hl
      cases hl
    · rw [aimF_none P _ L0 (fun _ _ => rfl)]
      exact HO4.out.grown HG0.out (by simp)
  case round =>
    obtain ⟨left, cnt, S, hrg, hS1, hS2, hS3, hO5, hg5⟩ := hrel
    have HRGr := Lib.hid hrg
    have HS1 := Lib.hid hS1
    have HS2 := Lib.hid hS2
    have HS3 := Lib.hid hS3
    have HO5 := Lib.hid hO5
    have HG5 := Lib.hid hg5
    have hz5 := hg5.size
    clear hrg hS1 hS2 hS3 hO5 hg5
    go_wp2_with (at_next; (refine wpList_next_ranges_ii _ rfl _ rfl 3 3 .i64 .i64 lawI Try.underlying3 Try.underlying3 pb r K.length DD left cnt rfl HRGr.out ?_ ?_; rotate_left; (intro x c w6 cnt6 hwx hwc hlx hat hrg6 hlt6 hg6 hs6 hen; have HWX := Lib.hid hwx; have HLX := Lib.hid hlx; have HAT := Lib.hid hat; have HRG6 := Lib.hid hrg6; have HLT6 := Lib.hid hlt6; have HG6 := Lib.hid hg6; clear hwx hwc hlx hat hrg6 hlt6 hg6 hs6); rotate_left; (intro hc0 hl0; have HL00 := Lib.hid hl0; clear hc0 hl0)))
    · have HSA := Lib.hid (show aimF P S L0 = aimF P (gcT l kf lt 0) L0 from aimF_congr P (fun i hi => by
        have hL := HL0.out
        by_cases hik : i < kf
        · rw [HS1.out i hik]
          unfold gcT
          simp
          omega
        · have hlen : L0.length = kf + K.length := by rw [← hL, List.length_append, List.length_take]; unfold oK; rw [List.length_map]; omega
          have hjK : i - kf < K.length := by omega
          have h1 := HS2.out (i - kf) K[i - kf] (List.getElem?_eq_getElem hjK)
          rw [HL00.out] at h1
          rw [show kf + (i - kf) = i by omega] at h1
          rw [h1]
          unfold gcT
          simp
          omega))
      have HOS := Lib.hid (show OwnU wr W1.heap.size (.slice A4 N0 c4) (flatO (aimF P (gcT l kf lt 0) L0)) from by rw [← HSA.out]; exact HO5.out)
      obtain ⟨w8, hw8⟩ : ∃ w8 : World, w8 = wr := ⟨_, rfl⟩
      subst hw8
      have HP4 := Lib.hid (show ∀ a n, (a, n) ∈ P → n < 4000 from fun a n h => by obtain ⟨_, _, _, _, _, _, _, _, h4⟩ := HPK.out a n h; exact h4)
      clear HSA HS1 HS2 HS3 HO5 HRGr HL00
      go_loopw [19, 48] (fun _ x48 wx => ∃ i : Nat, i ≤ lt.length ∧ x48 = .int .i64 (i : Int) ∧ OwnU wx W1.heap.size (.slice A4 N0 c4) (flatO (aimF P (gcT l kf lt i) L0)) ∧ w4.grownBy wx (Value.slice A4 N0 c4).ownBlock) (fun _ x48 _ => lt.length - (intOf x48).toNat)
      case atStart => exact ⟨0, Nat.zero_le _, rfl, HOS.out, HG5.out⟩
      case round =>
        obtain ⟨i, hi, rfl, hOi, hgi⟩ := hrel
        have HOi := Lib.hid hOi
        have HGi := Lib.hid hgi
        have hzi := hgi.size
        have HG0i := Lib.hid (show w.grownBy wr row from grown_step HG04.out hgi (.inr (fun k hk => by have := (HO4.out.blk k hk).1; have := HZ1.out; omega)))
        clear hOi hgi
        by_cases hlt : i < lt.length
        · obtain ⟨bL, oL, rfl, hbL, hcL⟩ := HL.out (by omega)
          obtain ⟨x, hx⟩ : ∃ x, lt[i]? = some x := ⟨_, List.getElem?_eq_getElem hlt⟩
          have hlx : lst lt i = x := by simp [lst, hx]
          have hcx := hcL i hlt 0 _ rfl
          simp only [Nat.mul_one, Nat.add_zero] at hcx
          rw [hlx] at hcx
          have cx : wr.cell? ⟨bL, oL + i, none⟩ = some (.int .i64 x) := (grown_cell HG0i.out hbL (fun e => HLTB.out (by omega) bL rfl e.symm)).trans hcx
          obtain ⟨⟨k, hk, hxk⟩, hord⟩ := HLTT.out i x hx
          subst hxk
          have hkl : k < l.length := by omega
          obtain ⟨o, ho⟩ : ∃ o, l[k]? = some o := ⟨_, List.getElem?_eq_getElem hkl⟩
          have hget : L0[k]? = some o := by rw [← HL0.out, L0_get_old' hk hkf]; exact ho
          obtain ⟨g1, g2, g3⟩ := gcT_step hkf hx hk hord
          obtain ⟨pre, post, e1, e2, e3⟩ := aim_list (P := P) hget g1 g2 g3
          have hpk : pre.length = posO l k := by rw [e2, ← HL0.out]; exact posO_old (by omega) hkf
          have hlen : (pre ++ wordsO o ++ post).length = N0 := by rw [← e1, aimF_flat_len]; exact HN0.out
          have hM6 : OwnMN wr pb K.length (lookI P) := HM4.out.kept HGi.out (fun e => HNE4.out pb e.symm rfl)
          have haim := aim_any pre post o P pb K.length W1.heap.size A4 c4 wr (by rw [hlen, ← e1]; exact HOi.out) (HGL0.out _ (List.mem_of_getElem? hget)) (by rw [hlen]; exact HFIT.out) (by rw [← e1]; exact flatO_64 (aimF_good HP4.out HGL0.out)) hM6 HP4.out (by rw [hlen]; exact HNE4.out)
          rw [hlen, hpk] at haim
          have HAIM := Lib.hid haim
          have HE3 := Lib.hid e3
          have j0 : (0 : Int) ≤ (i : Int) := by omega
          have j1 : (i : Int) < (lt.length : Int) := by omega
          obtain ⟨X, hX⟩ : ∃ X, posO l k = X := ⟨_, rfl⟩
          rw [hX] at cx HAIM
          clear hcL hlx hcx hx hord hk hkl ho hget g1 g2 g3 e1 e2 e3 hpk hlen hM6 haim hX
          go_wp2_with fail
          refine HAIM.out.mono ?_
          rintro e w9 ⟨rfl, hO9, hg9⟩
          rw [← HE3.out] at hO9
          have HO9 := Lib.hid hO9
          have HG9 := Lib.hid hg9
          clear hO9 hg9
          go_wp2_with fail
          exact ⟨⟨i + 1, by omega, by go_num, HO9.out, grown_step HGi.out HG9.out (.inl rfl)⟩, by simp [intOf]; omega⟩
        · have hil : i = lt.length := by omega
          have HIL := Lib.hid hil
          have d0 : decide ((i : Int) < (lt.length : Int)) = false := decide_eq_false (by omega)
          have HOF := Lib.hid (show OwnU wr W1.heap.size (.slice A4 N0 c4) (flatO (gcL l kf K lt)) from by
            have h1 := HOi.out
            have e : aimF P (gcT l kf lt i) L0 = gcL l kf K lt := by
              unfold gcL
              rw [HP.out, HL0.out]
              refine aimF_congr P (fun q hq => ?_)
              unfold gcT gcS
              rw [hil, List.take_length]
            rw [e] at h1
            exact h1)
          have HNF := Lib.hid (show (flatO (gcL l kf K lt)).length = N0 from by
            unfold gcL
            rw [HP.out, HL0.out, aimF_flat_len]
            exact HN0.out)
          clear hil
          obtain ⟨w9, hw9⟩ : ∃ w9 : World, w9 = wr := ⟨_, rfl⟩
          subst hw9
          go_wp2_with fail
          go_loopw [20, 22, 59] (fun x20 _ x59 wx => ∃ (i : Nat) (B : Option Addr) (d : Nat), i ≤ roots.length ∧ x59 = .int .i64 (i : Int) ∧ x20 = .slice B ((roots.map (mv P)).take i).length d ∧ OwnU wx w9.heap.size (.slice B ((roots.map (mv P)).take i).length d) ((roots.map (mv P)).take i) ∧ Below w9.heap.size w9 wx) (fun _ _ x59 _ => roots.length - (intOf x59).toNat)
          case atStart => exact ⟨0, none, 0, Nat.zero_le _, rfl, rfl, OwnU.nil _ _, Below.refl _ _⟩
          case round =>
            obtain ⟨i, B, d, hi, rfl, rfl, hB, hBw⟩ := hrel
            have HBU := Lib.hid hB
            have HBW := Lib.hid hBw
            have hzw := hBw.size
            clear hB hBw
            by_cases hlt : i < roots.length
            · obtain ⟨rA', rc', e, x1, x2, x3, x4⟩ := HR.out
              injection e with e1 e2 e3
              clear e2
              subst e1 e3
              obtain ⟨bR, oR, rfl, hbR, hcR⟩ := x4 (by omega)
              have hcq := hcR i hlt 0 _ rfl
              simp only [Nat.mul_one, Nat.add_zero] at hcq
              have hw9 := HG0i.out.size
              have cq : wr.cell? ⟨bR, oR + i, none⟩ = some (.int .u64 ((nth roots i : Nat) : Int)) := (HBW.out.cell (p := ⟨bR, _, none⟩) (by show bR < w9.heap.size; omega)).trans ((grown_cell HG0i.out hbR (fun e => HRTB.out (by omega) bR rfl e.symm)).trans hcq)
              have hx64 : nth roots i < 18446744073709551616 := HR64.out.nth i
              have htk : (roots.map (mv P)).take (i + 1) = (roots.map (mv P)).take i ++ [mv P (nth roots i)] := by
                rw [List.take_add_one, List.getElem?_map, List.getElem?_eq_getElem hlt, nth_get hlt]
                rfl
              obtain ⟨x, hx⟩ : ∃ x, nth roots i = x := ⟨_, rfl⟩
              rw [hx] at cq hx64 htk
              have HTKK := Lib.hid htk
              have HMr := Lib.hid ((HM4.out.kept HGi.out (fun e => HNE4.out pb e.symm rfl)).below HBW.out)
              obtain ⟨Li, hLi⟩ : ∃ Li, (roots.map (mv P)).take i = Li := ⟨_, rfl⟩
              rw [hLi] at HBU HTKK
              rw [hLi]
              have HLL := Lib.hid (show Li.length ≤ 100000 from by rw [← hLi, List.length_take, List.length_map]; omega)
              have j0 : (0 : Int) ≤ (i : Int) := by omega
              have j1 : (i : Int) < (roots.length : Int) := by omega
              clear hcR hcq htk hx hLi x1 x2 x3 x4 hw9
              go_wp2_with (at_builtin; (refine wpList_append_us rfl _ _ 22 22 rfl Try.underlying22 Try.underlying22 w9.heap.size (.slice B Li.length d) Li rfl (HBU.out.alloc _) (.slice (some ⟨wr.heap.size, 0, none⟩) 1 1) [mv P x] rfl (Su.one wr (mv P x)) (by have := HLL.out; simp only [List.length_cons, List.length_nil]; omega) (by simp; omega) ?_; intro v5 w5 hown5 hgrow5 hat5; have HO5 := Lib.hid hown5; have HG5' := Lib.hid hgrow5; clear hown5 hgrow5 hat5))
              refine (moved_any P pb K.length x wr HMr.out HP4.out hx64).mono ?_
              rintro e w6 ⟨rfl, rfl⟩
              go_wp2_with (at_builtin; (refine wpList_append_us rfl _ _ 22 22 rfl Try.underlying22 Try.underlying22 w9.heap.size (.slice B Li.length d) Li rfl (HBU.out.alloc _) (.slice (some ⟨wr.heap.size, 0, none⟩) 1 1) [mv P x] rfl (Su.one wr (mv P x)) (by have := HLL.out; simp only [List.length_cons, List.length_nil]; omega) (by simp; omega) ?_; intro v5 w5 hown5 hgrow5 hat5; have HO5 := Lib.hid hown5; have HG5' := Lib.hid hgrow5; clear hown5 hgrow5 hat5))
              obtain ⟨B5, d5, hv5, _, _, _⟩ := own_any HO5.out
              rw [← HTKK.out] at hv5
              subst hv5
              refine ⟨⟨i + 1, B5, d5, by omega, by go_num, rfl, ?_, ?_⟩, by simp [intOf]; omega⟩
              · rw [HTKK.out]
                have h1 := HO5.out
                rw [HTKK.out] at h1
                exact h1
              · exact below_grown (HBW.out.trans (((Below.refl _ _).alloc (Nat.le_refl _) _).mono hzw)) (by simp; omega) HG5'.out (fun g hg => (HBU.out.blk g hg).1)
            · have hirl : i = roots.length := by omega
              have HIRL := Lib.hid hirl
              have d1 : decide ((i : Int) < (roots.length : Int)) = false := decide_eq_false (by omega)
              clear hirl
              have hzz := HZ1.out
              have hw0 := HB02.out.size
              have hkeep : ∀ o, wr.cell? ⟨w.heap.size + 1, o, none⟩ = W1.cell? ⟨w.heap.size + 1, o, none⟩ ∧ wr.frozen? ⟨w.heap.size + 1, o, none⟩ = W1.frozen? ⟨w.heap.size + 1, o, none⟩ := fun o => by
                have hr3 : some (w.heap.size + 1) ≠ row := fun e => by have := HRT'.out _ e.symm; omega
                have hr4 : some (w.heap.size + 1) ≠ (Value.slice A4 N0 c4).ownBlock := fun e => by have := (HO4.out.blk _ e.symm).1; omega
                refine ⟨(HBW.out.cell (p := ⟨w.heap.size + 1, o, none⟩) (by show w.heap.size + 1 < w9.heap.size; omega)).trans ((grown_cell HGi.out (by omega) hr4).trans ((HB4.out.cell (p := ⟨w.heap.size + 1, o, none⟩) (by show w.heap.size + 1 < w3.heap.size; omega)).trans ((grown_cell HG3.out (by omega) hr3).trans (HB2.out.cell (p := ⟨w.heap.size + 1, o, none⟩) (by show w.heap.size + 1 < W1.heap.size; omega))))), ?_⟩
                exact (grown_frozen (grown_below (g := none) HBW.out) (by omega) (by simp)).trans ((grown_frozen HGi.out (by omega) hr4).trans ((grown_frozen (grown_below (g := none) HB4.out) (by omega) (by simp)).trans ((grown_frozen HG3.out (by omega) hr3).trans (grown_frozen (grown_below (g := none) HB2.out) (by omega) (by simp)))))
              obtain ⟨b0, b1, b2, b3⟩ := HBOX.out
              have y0 := (hkeep 0).1.trans b0
              have y1 := (hkeep 1).1.trans b1
              have y2 := (hkeep 2).1.trans b2
              have f0 := (hkeep 0).2.trans (b3 0)
              have f1 := (hkeep 1).2.trans (b3 1)
              have f2 := (hkeep 2).2.trans (b3 2)
              have HHZ := Lib.hid hzz
              have HPT3 := Lib.hid (fun u0 u1 u2 => put3_cells y0 y1 y2 u0 u1 u2)
              have hbz : w.heap.size + 1 < wr.heap.size := by omega
              have HG0w := Lib.hid (show w.grownBy wr row from grown_step HG0i.out (grown_below (g := none) HBW.out) (.inr (by simp)))
              clear hkeep b0 b1 b2 b3 hzz
              go_wp2_with fail
              obtain ⟨z0, z1, z2, zg⟩ := HPT3.out (.slice A4 N0 c4) (.int .i64 ((N0 : Nat) : Int)) (.slice none 0 0)
              have hzz := HHZ.out
              have hrt : (roots.map (mv P)).take i = roots.map (mv P) := by rw [HIRL.out]; exact List.take_of_length_le (by simp)
              have hrl2 : ((roots.map (mv P)).take i).length = roots.length := by rw [hrt]; simp
              have hB9 := HBU.out
              rw [hrl2, hrt] at hB9
              refine bodyPost_ret (gc_results (H := w.heap.size + 1) (u0 := .slice A4 N0 c4) (u1 := .int .i64 ((N0 : Nat) : Int)) (u2 := .slice none 0 0) (v13 := .slice B roots.length d) rfl (by rw [← hrl2]; rfl) z0 z1 z2) rfl ?_
              have hw0 := HB02.out.size
              have hnf := HNF.out
              refine ⟨K, A4, c4, B, d, by rw [HFR.out]; exact HK.out, by rw [hnf], ?_, ?_, grown_step HG0w.out zg (.inr (fun k hk => by injection hk with hk; omega)), fun k hk e => ?_⟩
              · rw [hnf]
                exact ((HOF.out.below HBW.out).grown zg (fun k hk e => by injection e with e; have := (HOF.out.blk k hk).1; omega)).mono (by omega)
              · rw [HP.out]
                exact (hB9.grown zg (fun k hk e => by injection e with e; have := (hB9.blk k hk).1; have := HBW.out.size; omega)).mono (by omega)
              · rw [hnf] at hk
                have h1 := (HOF.out.blk k hk).2
                have h2 := (hB9.blk k e).1
                omega
    · have hlk : lookI P x = some c := by
        cases hl : lookI P x with
        | none => exact absurd hl (HS3.out x HWX.out HLX.out)
        | some y =>
          have h1 := (HDG.out x HWX.out).2
          rw [HAT.out, hl] at h1
          injection h1 with h1
          injection h1 with _ h1
          rw [h1]
          rfl
      obtain ⟨a, n, hxa, hcn, hmem⟩ := lookI_mem hlk
      obtain ⟨j, k, o, hk, ho, ha, hn, hget, hn4⟩ := HPK.out a n hmem
      have hSf : S (kf + j) = false := by
        rw [HS2.out j k hk, ← ha, ← hxa, HLX.out]
        rfl
      obtain ⟨pre, post, e1, e2, e3⟩ := aim_list (P := P) (S := S) (S' := fun i => S i || decide (i = kf + j)) hget hSf (by simp) (fun i hi => by simp [hi])
      have hlen : (pre ++ wordsO o ++ post).length = N0 := by rw [← e1, aimF_flat_len]; exact HN0.out
      have hP4 : ∀ a n, (a, n) ∈ P → n < 4000 := fun a n h => by obtain ⟨_, _, _, _, _, _, _, _, h4⟩ := HPK.out a n h; exact h4
      have hO6 : OwnU w6 W1.heap.size (.slice A4 N0 c4) (pre ++ wordsO o ++ post) := by
        rw [← e1]
        exact HO5.out.grown HG6.out (fun k hk e => by injection e with e; have h1 := (HO4.out.blk k hk).2; have h2 := HR4.out; omega)
      have hM6 : OwnMN w6 pb K.length (lookI P) := (HM4.out.kept HG5.out (fun e => HNE4.out pb e.symm rfl)).kept HG6.out (fun e => by injection e with e; have h1 := HM4.out.lt; have h2 := HR4.out; omega)
      have haim := aim_any pre post o P pb K.length W1.heap.size A4 c4 w6 (by rw [hlen]; exact hO6) (HGL0.out o (List.mem_of_getElem? hget)) (by rw [hlen]; exact HFIT.out) (by rw [← e1]; exact flatO_64 (aimF_good hP4 HGL0.out)) hM6 hP4 (by rw [hlen]; exact HNE4.out)
      rw [hlen, e2, ← hn, ← hcn] at haim
      refine haim.mono ?_
      rintro e w7 ⟨rfl, hO7, hg7⟩
      rw [← e3] at hO7
      have HO7 := Lib.hid hO7
      have HG7 := Lib.hid hg7
      have HNEW := Lib.hid (show ∀ (j' k' : Nat), K[j']? = some k' → (S (kf + j') || decide (kf + j' = kf + j)) = !(left (.int .i64 ((posO l k' : Nat) : Int)) && !(Lit.int .i64 ((posO l k' : Nat) : Int)).sameKey (.int .i64 x)) from fun j' k' hk' => by
        by_cases hjj : j' = j
        · subst hjj
          rw [hk] at hk'
          injection hk' with hk'
          subst hk'
          rw [← ha, ← hxa]
          simp [Lit.sameKey]
        · have hne : ((posO l k' : Nat) : Int) ≠ x := fun e => by
            have h1 : posO l k' = posO l k := by omega
            have h2 := posO_inj (HK.out.lt k' (List.mem_of_getElem? hk')).1 (HK.out.lt k (List.mem_of_getElem? hk)).1 h1
            subst h2
            have g1 := List.getElem?_eq_some_iff.1 hk
            have g2 := List.getElem?_eq_some_iff.1 hk'
            obtain ⟨b1, c1⟩ := g1
            obtain ⟨b2, c2⟩ := g2
            rcases Nat.lt_trichotomy j' j with h3 | h3 | h3
            · exact List.pairwise_iff_getElem.1 HK.out.nodup j' j b2 b1 h3 (by rw [c1, c2])
            · exact hjj h3
            · exact List.pairwise_iff_getElem.1 HK.out.nodup j j' b1 b2 h3 (by rw [c1, c2])
          rw [HS2.out j' k' hk']
          simp [Lit.sameKey, hne, hjj])
      clear hlk hxa hcn hmem hk ho ha hn hget hSf e1 e2 e3 hlen hO6 hM6 haim hO7 hg7
      go_wp2_with fail
      have hrg7 := HRG6.out.kept HG7.out (fun e => HNE4.out pb e.symm rfl) (fun e => by have h1 := (HO4.out.blk r e.symm).2; have h2 := HR4.out; omega)
      refine ⟨⟨_, _, fun i => S i || decide (i = kf + j), hrg7, fun i hi => ?_, HNEW.out, fun y hy hl => ?_, HO7.out, grown_step (grown_step HG5.out HG6.out (.inr (fun g hg => by injection hg with hg; have := HR4.out; omega))) HG7.out (.inl rfl)⟩, ?_⟩
      · simp only [HS1.out i hi, Bool.false_or, decide_eq_false_iff_not]
        omega
      · simp only [Bool.and_eq_true] at hl
        exact HS3.out y hy hl.1
      · rw [hrg7.left_eq, HRGr.out.left_eq]
        exact HLT6.out
end Go.Proofs.Ytkdbnkkdohkhjaa
namespace Go.Proofs.Ytkdbnkkdohkhjaa
open Go.RowKit
set_option linter.unusedVariables false
theorem info_cloneWords : (Try.prog.info? 27).map (fun i => (i.zero, i.size, i.bytes)) = some (some (.int .u64 0), 1, 8) := by kernel_rfl
set_option maxRecDepth 100000 in
set_option maxHeartbeats 400000 in
theorem cloneWords (A : Option Addr) (n c : Nat) (g : Nat → List Value) (w : World) (hR : Rd w 1 g A n) (hl : ∀ k, (g k).length = 1) (h1 : ∀ k u, u ∈ g k → u.oneCell' = true)
    (hA : A = none → n = 0) (hn : n * 8 ≤ 140737488355328) :
    Calls Try.prog 47 #[.slice A n c] w (ClonePost 27 1 n (flatC g n) w) := by
  obtain ⟨i0, hi, hz0, hz1, hz2⟩ := info_parts info_cloneWords
  have hnil := fun (w : World) => Lib.run_eql_slice_nil (P := Try.prog) w
  cases A with
  | none =>
    obtain rfl := hA rfl
    clear hR hl h1 hA hi hz0 hz1 hz2 hn
    go_enter Try.func47, Try.ntmps47
    go_wp2_with fail
    go_ret
    exact ⟨_, rfl, World.ownsRow_nil _ _ _ _, Below.refl _ _⟩
  | some a =>
    have hn0 : ∀ (o : Obj) j u, (flatC g n)[j]? = some u → (w.alloc o).cell? (a.add j) = some u := fun o j u hu => by
      obtain ⟨q1, q2, q3⟩ := flatC_at hl (by omega) hu
      obtain ⟨b, off, hab, hb, hc⟩ := hR (by omega)
      injection hab with hab
      subst hab
      have e : (⟨b, off, none⟩ : Addr).add j = ⟨b, off + j / 1 * 1 + j % 1, none⟩ := by
        have := Nat.div_add_mod' j 1
        unfold Addr.add
        split
        · rename_i h; subst h; simp
        · simp; omega
      rw [e, World.cell?_alloc_lt _ _ _ hb]
      exact hc _ q1 _ _ q3
    have HN := Lib.hid hn0
    have H1 := Lib.hid h1
    have HL := Lib.hid (flatC_length hl n)
    clear hR hl h1 hA hn0
    go_enter Try.func47, Try.ntmps47
    go_wp2_with (at_builtin; refine wpList_append_own _ rfl _ _ 22 rfl w.heap.size 27 i0 _ 1 8 Try.underlying22 hi hz0 hz1 hz2 rfl (by omega) (.slice (some ⟨w.heap.size, 0, none⟩) 0 0) 0 [] rfl (World.ownsRow_lit w #[] 0 (Nat.le_refl _) (by simp [maxLen]) rfl) a n c (flatC g n) rfl HL.out (HN.out _) (fun u hu => by obtain ⟨k, _, hk⟩ := flatC_mem hu; exact H1.out k u hk) (by unfold maxLen; omega) (by omega) (by simp) ?_; intro v1 w1 hown hgrow _; simp only [Nat.zero_add, List.nil_append] at hown)
    go_ret
    exact ⟨v1, rfl, hown, ((Below.refl _ _).alloc (Nat.le_refl _) _).grown hgrow (by simp) (by simp [Value.ownBlock])⟩

theorem cloneU_any (A : Option Addr) (c : Nat) (l : List Nat) (w : World) (hS : Su w (.slice A l.length c) l) (hl : l.length ≤ 17592186044416) :
    Calls Try.prog 47 #[.slice A l.length c] w fun e w' => ∃ A' c', e = .returned (.slice A' l.length c') ∧ OwnU w' w.heap.size (.slice A' l.length c') l ∧ Below w.heap.size w w' := by
  obtain ⟨A0, c0, e, h1, h2, h3, h4⟩ := hS
  injection e with e1 e2 e3
  subst e1 e3
  refine (cloneWords A l.length c (uC (nth l)) w h4 (uC_len _) (uC_one _) h3 (by omega)).mono ?_
  rintro e w1 ⟨v1, rfl, hown1, hb1⟩
  rw [flatC_nth] at hown1
  obtain ⟨A1, c1, rfl, _, _, _⟩ := own_any hown1
  exact ⟨A1, c1, rfl, hown1, hb1⟩
end Go.Proofs.Ytkdbnkkdohkhjaa
namespace Go.Proofs.Ytkdbnkkdohkhjaa
open Go.RowKit
set_option linter.unusedVariables false
def MajYes (h : List Nat) (old : Int) (late : List Int) (roots : List Nat) (w : World) (e : Ending) (w' : World) : Prop := ∃ l K A c B d, OkA h old late l ∧ (∀ p ∈ roots, wordOk l p) ∧ RK l 0 roots K [] ∧ e = .returned (.tuple #[.agg #[.slice A (flatO (gcL l 0 K [])).length c, .int .i64 (((flatO (gcL l 0 K [])).length : Nat) : Int), .slice none 0 0], .slice B roots.length d, .int .i64 0]) ∧
  OwnU w' w.heap.size (.slice A (flatO (gcL l 0 K [])).length c) (flatO (gcL l 0 K [])) ∧ OwnU w' w.heap.size (.slice B roots.length d) (roots.map (mv (gcP l 0 K))) ∧ Below w.heap.size w w' ∧ ∀ k, (Value.slice A (flatO (gcL l 0 K [])).length c).ownBlock = some k → (Value.slice B roots.length d).ownBlock ≠ some k
def GcNo (h : List Nat) (old : Int) (late : List Int) (roots : List Nat) (w : World) (e : Ending) (w' : World) : Prop := (¬ ∃ l, OkA h old late l ∧ ∀ p ∈ roots, wordOk l p) ∧ ∃ x : Int, x ≠ 0 ∧ e = .returned (.tuple #[.agg #[.slice none 0 0, .int .i64 0, .slice none 0 0], .slice none 0 0, .int .i64 x]) ∧ Below w.heap.size w w'
theorem major_results {tmps : Array Value} {wz : World} {H : Nat} {u0 u1 u2 v5 v6 : Value} (t4 : tmps.getD 4 undef = .pointer (some ⟨H, 0, none⟩)) (t5 : tmps.getD 5 undef = v5) (t6 : tmps.getD 6 undef = v6)
    (z0 : wz.cell? ⟨H, 0, none⟩ = some u0) (z1 : wz.cell? ⟨H, 1, none⟩ = some u1) (z2 : wz.cell? ⟨H, 2, none⟩ = some u2) :
    (results Try.f19 tmps).run Try.prog wz = .ok (.tuple #[.agg #[u0, u1, u2], v5, v6]) wz := by
  simp only [Array.getD_eq_getD_getElem?] at t4 t5 t6
  simp [results, Try.results19, go_sem, t4, t5, t6, z0, z1, z2]
theorem keep3 (wx : World) {b c : Nat} (hne : b ≠ c) (u0 u1 u2 : Value) (o : Nat) : (((wx.setCell ⟨b, 0, none⟩ u0).setCell ⟨b, 1, none⟩ u1).setCell ⟨b, 2, none⟩ u2).cell? ⟨c, o, none⟩ = wx.cell? ⟨c, o, none⟩ := by
  rw [World.cell?_setCell_other _ _ _ _ (fun e => hne (by injection e)), World.cell?_setCell_other _ _ _ _ (fun e => hne (by injection e)), World.cell?_setCell_other _ _ _ _ (fun e => hne (by injection e))]
theorem keepA (wx : World) (ob : Obj) {c : Nat} (h : c < wx.heap.size) (o : Nat) : (wx.alloc ob).cell? ⟨c, o, none⟩ = wx.cell? ⟨c, o, none⟩ := ((Below.refl wx.heap.size wx).alloc (Nat.le_refl _) ob).cell (p := ⟨c, o, none⟩) h
set_option maxHeartbeats 8000000 in
set_option maxRecDepth 100000 in
theorem major_any (h roots : List Nat) (hA lA rA : Option Addr) (hc lc rc : Nat) (old : Int) (late : List Int) (w : World) (hH : Su w (.slice hA h.length hc) h) (h64 : All64 h) (hlen : h.length ≤ 17592186044416) (hL : Rd w 1 (tmC (lst late)) lA late.length) (hll : late.length ≤ 17592186044416) (hwl : ∀ x ∈ late, Wf x) (hwo : Wf old) (hR : Su w (.slice rA roots.length rc) roots) (r64 : All64 roots) (hrl : roots.length ≤ 100000) :
    Calls Try.prog 19 #[.agg #[.slice hA h.length hc, .int .i64 old, .slice lA late.length lc], .slice rA roots.length rc] w fun e w' => MajYes h old late roots w e w' ∨ GcNo h old late roots w e w' := by
  have HH := Lib.hid hH
  have H64 := Lib.hid h64
  have HL := Lib.hid hL
  have HWL := Lib.hid hwl
  have HWO := Lib.hid hwo
  have HR := Lib.hid hR
  have HR64 := Lib.hid r64
  clear hH h64 hL hwl hwo hR r64
  obtain ⟨W1, hW1⟩ : ∃ W1, W1 = (w.alloc (.cells #[.slice hA h.length hc, .int .i64 old, .slice lA late.length lc] 26)).alloc (.cells #[.slice none 0 0, .int .i64 0, .slice none 0 0] 26) := ⟨_, rfl⟩
  have HB1 := Lib.hid (show Below w.heap.size w W1 by rw [hW1]; exact ((Below.refl _ _).alloc (Nat.le_refl _) _).alloc (by simp) _)
  have HZ1 := Lib.hid (show W1.heap.size = w.heap.size + 2 by rw [hW1]; simp)
  have HAG := Lib.hid (show AgB W1 w.heap.size hA h.length hc old lA late.length lc from by
    rw [hW1]
    exact (AgB.new w hA h.length hc old lA late.length lc 26).below ((Below.refl _ _).alloc (Nat.le_refl _) _))
  have HBOX := Lib.hid (show AgB W1 (w.heap.size + 1) none 0 0 0 none 0 0 ∧ ∀ o, W1.frozen? ⟨w.heap.size + 1, o, none⟩ = false from by
    rw [hW1]
    have h1 := AgB.new (w.alloc (.cells #[.slice hA h.length hc, .int .i64 old, .slice lA late.length lc] 26)) none 0 0 0 none 0 0 26
    have h2 : (w.alloc (.cells #[.slice hA h.length hc, .int .i64 old, .slice lA late.length lc] 26)).heap.size = w.heap.size + 1 := by simp
    rw [h2] at h1
    exact ⟨h1, fun o => by simp [go_sem]⟩)
  obtain ⟨a0, a1, a2, a3⟩ := HAG.out
  go_enter Try.func19, Try.ntmps19
  go_wp2_with fail
  rw [← hW1]
  clear hW1
  refine (started_any h roots hA lA rA hc lc rc old late W1 (HH.out.below HB1.out) H64.out hlen (HL.out.below HB1.out) hll HWL.out HWO.out (HR.out.below HB1.out) HR64.out (by omega)).mono ?_
  rintro e w2 (⟨l, mb, C, hok, hro, rfl, hidx, hmb, hb⟩ | ⟨hno, x, hx, rfl, hb⟩)
  · have HB2 := Lib.hid hb
    have HB02 := Lib.hid (HB1.out.trans (hb.mono HB1.out.size))
    have hz2 := hb.size
    have HOK := Lib.hid hok
    have HRO := Lib.hid hro
    have HIT := Lib.hid (IdxT.of hidx)
    have HAG2 := Lib.hid (HAG.out.below hb)
    have HBX2 := Lib.hid (HBOX.out.1.below hb)
    have HFZ := Lib.hid (show ∀ o, w2.frozen? ⟨w.heap.size + 1, o, none⟩ = false from fun o => (grown_frozen (grown_below (g := none) hb) (by have := HZ1.out; omega) (by simp)).trans (HBOX.out.2 o))
    have hzz := HZ1.out
    have HRB := Lib.hid (show 0 < roots.length → ∀ k, (Value.slice rA roots.length rc).ownBlock = some k → k < w.heap.size from fun h0 k hk => by
      obtain ⟨A', c', e, _, _, _, h4⟩ := HR.out
      injection e with e1 _ _
      subst e1
      obtain ⟨b, off, rfl, hb', _⟩ := h4 h0
      injection hk with hk
      subst hk
      exact hb')
    clear hb hok hro hidx a0 a1 a2 a3
    have HD := Lib.hid (show Below w2.heap.size w2 w2.drew from (Below.refl _ _).drew)
    have HAGd := Lib.hid (HAG2.out.below HD.out)
    obtain ⟨a0, a1, a2, a3⟩ := HAGd.out
    have HDz := Lib.hid (show Below w2.heap.size w2 (w2.alloc (.cells #[.slice none 0 0, .int .i64 0, .slice none 0 0] 26)).drew from ((Below.refl _ _).alloc (Nat.le_refl _) _).drew)
    have HAGz := Lib.hid (HAG2.out.below HDz.out)
    have HAZ := Lib.hid (show AgB (w2.alloc (.cells #[.slice none 0 0, .int .i64 0, .slice none 0 0] 26)).drew w2.heap.size none 0 0 0 none 0 0 ∧ ∀ o, (w2.alloc (.cells #[.slice none 0 0, .int .i64 0, .slice none 0 0] 26)).drew.frozen? ⟨w2.heap.size, o, none⟩ = false from ⟨(AgB.new w2 none 0 0 0 none 0 0 26).below (Below.refl _ _).drew, fun o => by show (w2.alloc _).frozen? ⟨w2.heap.size, o, none⟩ = false; simp [go_sem]⟩)
    have HAZ3 := Lib.hid (show ∀ w3 : World, AgB (w3.alloc (.cells #[.slice none 0 0, .int .i64 0, .slice none 0 0] 26)) w3.heap.size none 0 0 0 none 0 0 ∧ ∀ o, (w3.alloc (.cells #[.slice none 0 0, .int .i64 0, .slice none 0 0] 26)).frozen? ⟨w3.heap.size, o, none⟩ = false from fun w3 => ⟨AgB.new w3 none 0 0 0 none 0 0 26, fun o => by simp [go_sem]⟩)
    go_wp2_with fail
    have HNA := Lib.hid (show ∀ (w3 : World) (A3 : Option Addr) (c3 : Nat), OwnU w3 w2.heap.size (.slice A3 roots.length c3) roots → ∀ b, b < w2.heap.size → some b ≠ (Value.slice A3 roots.length c3).ownBlock from fun w3 A3 c3 ho b hb e => by
      have h2 : w2.heap.size ≤ b := (ho.blk b e.symm).1
      omega)
    have HCOL := Lib.hid (show ∀ (w3 : World) (A3 : Option Addr) (c3 : Nat), Below w2.heap.size w2 w3 → OwnU w3 w2.heap.size (.slice A3 roots.length c3) roots → Calls Try.prog 48 #[.agg #[.slice hA h.length hc, .int .i64 old, .slice lA late.length lc], .map (some mb), .slice A3 roots.length c3, .slice rA roots.length rc, .int .i64 0, .slice none 0 0] w3 (GcPost l 0 [] roots roots (Value.slice A3 roots.length c3).ownBlock w3) from fun w3 A3 c3 hb3 ho3 => by
      have := collect_any h l C old 0 [] roots roots hA lA A3 rA none hc late.length lc c3 rc 0 W1.heap.size w2.heap.size mb w3 ((HH.out.below HB02.out).below hb3) HOK.out.obs HOK.out.len (HIT.out.below hb3) hb3.size (by omega) (QW.of_own ho3) (fun p hp => ⟨HRO.out p hp, HR64.out p hp⟩) (fun k o hk p hp => (HOK.out.parts k o hk p hp).1) (by omega) ((HR.out.below HB02.out).below hb3) (fun h0 k hk e => by have h1 := HRB.out h0 k hk; have h2 := (ho3.blk k e).1; omega) HR64.out hrl (fun h0 => absurd h0 (by simp)) (fun h0 => absurd h0 (by simp)) (fun i x hx => by simp at hx) (by simp)
      have e : ((posO l 0 : Nat) : Int) = 0 := rfl
      rw [e] at this
      exact this)
    have hzw2 : w.heap.size < w2.heap.size := by omega
    have HZW := Lib.hid hzw2
    have HQ2 := Lib.hid (show w.heap.size + 1 < w2.heap.size from by omega)
    have HZD := Lib.hid (show w.heap.size < w2.drew.heap.size from hzw2)
    go_region_held3 (fun W => W.cell? ⟨w.heap.size, 0, none⟩ = some (.slice hA h.length hc) ∧ W.cell? ⟨w.heap.size, 1, none⟩ = some (.int .i64 old) ∧ W.cell? ⟨w.heap.size, 2, none⟩ = some (.slice lA late.length lc))
      (first | with_reducible exact ⟨a0, a1, a2⟩ | with_reducible exact ⟨r0, r1, r2⟩ | with_reducible exact ⟨s0, s1, s2⟩ | with_reducible exact ⟨(keep3 _ (Nat.ne_of_gt HZ3.out) _ _ _ _).trans s0, (keep3 _ (Nat.ne_of_gt HZ3.out) _ _ _ _).trans s1, (keep3 _ (Nat.ne_of_gt HZ3.out) _ _ _ _).trans s2⟩ | with_reducible exact ⟨(keep3 _ (Nat.ne_of_gt HZW.out) _ _ _ _).trans s0, (keep3 _ (Nat.ne_of_gt HZW.out) _ _ _ _).trans s1, (keep3 _ (Nat.ne_of_gt HZW.out) _ _ _ _).trans s2⟩ | with_reducible exact ⟨(keep3 _ (Nat.ne_of_gt HZ4.out) _ _ _ _).trans ((keepA _ _ HZ4.out _).trans s0), (keep3 _ (Nat.ne_of_gt HZ4.out) _ _ _ _).trans ((keepA _ _ HZ4.out _).trans s1), (keep3 _ (Nat.ne_of_gt HZ4.out) _ _ _ _).trans ((keepA _ _ HZ4.out _).trans s2)⟩ | with_reducible exact ⟨(keepA _ _ HZ4.out _).trans s0, (keepA _ _ HZ4.out _).trans s1, (keepA _ _ HZ4.out _).trans s2⟩ | with_reducible exact ⟨(keepA _ _ HZ3.out _).trans r0, (keepA _ _ HZ3.out _).trans r1, (keepA _ _ HZ3.out _).trans r2⟩ | with_reducible exact ⟨HAGz.out.a0, HAGz.out.a1, HAGz.out.a2⟩ | go_keep)
      (first
        | (go_at_call 47; refine (cloneU_any rA rc roots w2.drew ((HR.out.below HB02.out).below HD.out) (by omega)).mono ?_; rintro e w3 ⟨A3, c3, rfl, ho3, hb3⟩; obtain ⟨r0, r1, r2, r3⟩ := HAGd.out.below hb3; have HO3 := Lib.hid (ho3.mono HD.out.size); have HB3 := Lib.hid (HD.out.trans (hb3.mono HD.out.size)); have hz3 : w2.heap.size ≤ w3.heap.size := HB3.out.size; have HZ3 := Lib.hid (Nat.lt_of_lt_of_le HZW.out hz3); clear ho3 hb3)
        | (go_at_call 47; refine (cloneU_any rA rc roots (w2.alloc (.cells #[.slice none 0 0, .int .i64 0, .slice none 0 0] 26)).drew ((HR.out.below HB02.out).below HDz.out) (by omega)).mono ?_; rintro e w3 ⟨A3, c3, rfl, ho3, hb3⟩; obtain ⟨r0, r1, r2, r3⟩ := HAGz.out.below hb3; obtain ⟨t0, t1, t2, t3⟩ := HAZ.out.1.below hb3; have HTF := Lib.hid (fun o => (grown_frozen (o := o) (grown_below (g := none) hb3) HAZ.out.1.lt (by simp)).trans (HAZ.out.2 o)); have HNT := Lib.hid (show some w2.heap.size ≠ (Value.slice A3 roots.length c3).ownBlock from fun e => Nat.lt_irrefl _ (Nat.lt_of_lt_of_le HAZ.out.1.lt (ho3.blk _ e.symm).1)); have HO3 := Lib.hid (ho3.mono HDz.out.size); have HB3 := Lib.hid (HDz.out.trans (hb3.mono HDz.out.size)); have hz3 : w2.heap.size ≤ w3.heap.size := HB3.out.size; have HZ3 := Lib.hid (Nat.lt_of_lt_of_le HZW.out hz3); clear ho3 hb3)
        | (go_at_call 48; refine (HCOL.out w3 A3 c3 HB3.out HO3.out).mono ?_; rintro e w4 ⟨K, A4, c4, B4, d4, hK, rfl, ho4, hB4, hg4, hne4⟩; have HK := Lib.hid hK; have HO4 := Lib.hid ho4; have HB4 := Lib.hid hB4; have HG4 := Lib.hid hg4; have HN4 := Lib.hid hne4; have HZ4 := Lib.hid (show w.heap.size < w4.heap.size from Nat.lt_of_lt_of_le (Nat.lt_of_lt_of_le HZ3.out (by first | exact Nat.le_refl _ | simp)) hg4.size); have s0 := (grown_cell (o := 0) hg4 HZ3.out (HNA.out w3 A3 c3 HO3.out _ HZW.out)).trans r0; have s1 := (grown_cell (o := 1) hg4 HZ3.out (HNA.out w3 A3 c3 HO3.out _ HZW.out)).trans r1; have s2 := (grown_cell (o := 2) hg4 HZ3.out (HNA.out w3 A3 c3 HO3.out _ HZW.out)).trans r2;  have v0 := (grown_cell (o := 0) hg4 t3 HNT.out).trans t0; have x0 := (grown_frozen (o := 0) hg4 t3 HNT.out).trans (HTF.out 0); have v1 := (grown_cell (o := 1) hg4 t3 HNT.out).trans t1; have x1 := (grown_frozen (o := 1) hg4 t3 HNT.out).trans (HTF.out 1); have v2 := (grown_cell (o := 2) hg4 t3 HNT.out).trans t2; have x2 := (grown_frozen (o := 2) hg4 t3 HNT.out).trans (HTF.out 2); clear hK ho4 hB4 hg4 hne4)
        | (go_at_call 48; refine (HCOL.out w3 A3 c3 HB3.out HO3.out).mono ?_; rintro e w4 ⟨K, A4, c4, B4, d4, hK, rfl, ho4, hB4, hg4, hne4⟩; have HK := Lib.hid hK; have HO4 := Lib.hid ho4; have HB4 := Lib.hid hB4; have HG4 := Lib.hid hg4; have HN4 := Lib.hid hne4; have HZ4 := Lib.hid (show w.heap.size < w4.heap.size from Nat.lt_of_lt_of_le (Nat.lt_of_lt_of_le HZ3.out (by first | exact Nat.le_refl _ | simp)) hg4.size); have s0 := (grown_cell (o := 0) hg4 HZ3.out (HNA.out w3 A3 c3 HO3.out _ HZW.out)).trans r0; have s1 := (grown_cell (o := 1) hg4 HZ3.out (HNA.out w3 A3 c3 HO3.out _ HZW.out)).trans r1; have s2 := (grown_cell (o := 2) hg4 HZ3.out (HNA.out w3 A3 c3 HO3.out _ HZW.out)).trans r2;  clear hK ho4 hB4 hg4 hne4)
        | (go_at_call 48; refine (HCOL.out (w3.alloc (.cells #[.slice none 0 0, .int .i64 0, .slice none 0 0] 26)) A3 c3 (HB3.out.trans (((Below.refl _ _).alloc (Nat.le_refl _) _).mono hz3)) (HO3.out.alloc _)).mono ?_; rintro e w4 ⟨K, A4, c4, B4, d4, hK, rfl, ho4, hB4, hg4, hne4⟩; have HK := Lib.hid hK; have HO4 := Lib.hid ho4; have HB4 := Lib.hid hB4; have HG4 := Lib.hid hg4; have HN4 := Lib.hid hne4; have HZ4 := Lib.hid (show w.heap.size < w4.heap.size from Nat.lt_of_lt_of_le (Nat.lt_of_lt_of_le HZ3.out (by first | exact Nat.le_refl _ | simp)) hg4.size); have s0 := (grown_cell (o := 0) hg4 (Nat.lt_of_lt_of_le HZ3.out (by simp)) (HNA.out w3 A3 c3 HO3.out _ HZW.out)).trans ((((Below.refl _ _).alloc (Nat.le_refl _) _).cell (p := ⟨w.heap.size, 0, none⟩) HZ3.out).trans r0); have s1 := (grown_cell (o := 1) hg4 (Nat.lt_of_lt_of_le HZ3.out (by simp)) (HNA.out w3 A3 c3 HO3.out _ HZW.out)).trans ((((Below.refl _ _).alloc (Nat.le_refl _) _).cell (p := ⟨w.heap.size, 1, none⟩) HZ3.out).trans r1); have s2 := (grown_cell (o := 2) hg4 (Nat.lt_of_lt_of_le HZ3.out (by simp)) (HNA.out w3 A3 c3 HO3.out _ HZW.out)).trans ((((Below.refl _ _).alloc (Nat.le_refl _) _).cell (p := ⟨w.heap.size, 2, none⟩) HZ3.out).trans r2);  have hN9 := HNA.out w3 A3 c3 HO3.out; have hlt9 := (HO3.out.blk); have v0 := (grown_cell (o := 0) hg4 (HAZ3.out w3).1.lt (fun e => Nat.lt_irrefl _ (hlt9 _ e.symm).2)).trans (HAZ3.out w3).1.a0; have x0 := (grown_frozen (o := 0) hg4 (HAZ3.out w3).1.lt (fun e => Nat.lt_irrefl _ (hlt9 _ e.symm).2)).trans ((HAZ3.out w3).2 0); have v1 := (grown_cell (o := 1) hg4 (HAZ3.out w3).1.lt (fun e => Nat.lt_irrefl _ (hlt9 _ e.symm).2)).trans (HAZ3.out w3).1.a1; have x1 := (grown_frozen (o := 1) hg4 (HAZ3.out w3).1.lt (fun e => Nat.lt_irrefl _ (hlt9 _ e.symm).2)).trans ((HAZ3.out w3).2 1); have v2 := (grown_cell (o := 2) hg4 (HAZ3.out w3).1.lt (fun e => Nat.lt_irrefl _ (hlt9 _ e.symm).2)).trans (HAZ3.out w3).1.a2; have x2 := (grown_frozen (o := 2) hg4 (HAZ3.out w3).1.lt (fun e => Nat.lt_irrefl _ (hlt9 _ e.symm).2)).trans ((HAZ3.out w3).2 2); clear hK ho4 hB4 hg4 hne4 hN9 hlt9))
    all_goals
      have hq2 : w.heap.size + 1 < w2.heap.size := HQ2.out
      have hq3 : w.heap.size + 1 < w3.heap.size := by have := HB3.out.size; omega
      have hna := HNA.out w3 A3 c3 HO3.out (w.heap.size + 1) HQ2.out
      have hx3 := HBX2.out.below HB3.out
      have hf3 : ∀ o, w3.frozen? ⟨w.heap.size + 1, o, none⟩ = false := fun o => (grown_frozen (grown_below (g := none) HB3.out) HQ2.out (by simp)).trans (HFZ.out o)
      have hx4 : AgB w4 (w.heap.size + 1) none 0 0 0 none 0 0 ∧ ∀ o, w4.frozen? ⟨w.heap.size + 1, o, none⟩ = false := by
        first
          | exact ⟨⟨(grown_cell HG4.out hq3 hna).trans hx3.a0, (grown_cell HG4.out hq3 hna).trans hx3.a1, (grown_cell HG4.out hq3 hna).trans hx3.a2, Nat.lt_of_lt_of_le hq3 HG4.out.size⟩, fun o => (grown_frozen HG4.out hq3 hna).trans (hf3 o)⟩
          | exact ⟨⟨(grown_cell HG4.out (Nat.lt_of_lt_of_le hq3 (by simp)) hna).trans ((keepA w3 _ hq3 _).trans hx3.a0), (grown_cell HG4.out (Nat.lt_of_lt_of_le hq3 (by simp)) hna).trans ((keepA w3 _ hq3 _).trans hx3.a1), (grown_cell HG4.out (Nat.lt_of_lt_of_le hq3 (by simp)) hna).trans ((keepA w3 _ hq3 _).trans hx3.a2), Nat.lt_of_lt_of_le (Nat.lt_of_lt_of_le hq3 (by simp)) HG4.out.size⟩, fun o => (grown_frozen HG4.out (Nat.lt_of_lt_of_le hq3 (by simp)) hna).trans ((grown_frozen (World.grownBy_alloc w3 _ none) hq3 (by simp)).trans (hf3 o))⟩
      have HX4 := Lib.hid hx4
      obtain ⟨⟨y0, y1, y2, y3⟩, yf⟩ := hx4
      have yf0 := yf 0
      have yf1 := yf 1
      have yf2 := yf 2
      clear hx3 hf3 yf hna
      have HBW4 := Lib.hid (show Below w.heap.size w w4 from by
        have h3 : Below w.heap.size w w3 := HB02.out.trans (HB3.out.mono HB02.out.size)
        have h9 : ∀ k, (Value.slice A3 roots.length c3).ownBlock = some k → w.heap.size ≤ k := fun k hk => by have := (HO3.out.blk k hk).1; omega
        first
          | exact below_grown h3 h3.size HG4.out h9
          | exact below_grown (h3.alloc h3.size _) (by simp; omega) HG4.out h9)
      have hz23 := HB3.out.size
      go_wp2_with fail
    · obtain ⟨z0, z1, z2, zg⟩ := put3_cells y0 y1 y2 (.slice A4 (flatO (gcL l 0 K [])).length c4) (.int .i64 (((flatO (gcL l 0 K [])).length : Nat) : Int)) (.slice none 0 0)
      have hzz : w.heap.size + 1 < (put3 w4 (w.heap.size + 1) (.slice A4 (flatO (gcL l 0 K [])).length c4) (.int .i64 (((flatO (gcL l 0 K [])).length : Nat) : Int)) (.slice none 0 0)).heap.size := Nat.lt_of_lt_of_le y3 zg.size
      refine bodyPost_ret (major_results (H := w.heap.size + 1) (v5 := .slice B4 roots.length d4) (v6 := .int .i64 0) rfl rfl rfl ((keepA _ _ hzz 0).trans z0) ((keepA _ _ hzz 1).trans z1) ((keepA _ _ hzz 2).trans z2)) rfl (.inl ⟨l, K, A4, c4, B4, d4, HOK.out, HRO.out, HK.out, rfl, ?_, ?_, ?_, HN4.out⟩)
      · exact ((HO4.out.grown zg (fun k hk e => by injection e with e; have h1 := (HO4.out.blk k hk).1; omega)).alloc _).mono (by omega)
      · exact ((HB4.out.grown zg (fun k hk e => by injection e with e; have h1 := (HB4.out.blk k hk).1; omega)).alloc _).mono (by omega)
      · exact (below_grown HBW4.out HBW4.out.size zg (fun g hg => by injection hg with hg; omega)).alloc (Nat.le_trans HBW4.out.size zg.size) _
    · obtain ⟨p0, p1, p2, pg⟩ := put3_cells v0 v1 v2 (.slice A4 (flatO (gcL l 0 K [])).length c4) (.int .i64 (((flatO (gcL l 0 K [])).length : Nat) : Int)) (.slice none 0 0)
      obtain ⟨z0, z1, z2, zg⟩ := put3_cells ((keep3 w4 (show w3.heap.size ≠ w.heap.size + 1 by omega) _ _ _ 0).trans y0) ((keep3 w4 (show w3.heap.size ≠ w.heap.size + 1 by omega) _ _ _ 1).trans y1) ((keep3 w4 (show w3.heap.size ≠ w.heap.size + 1 by omega) _ _ _ 2).trans y2) (.slice A4 (flatO (gcL l 0 K [])).length c4) (.int .i64 (((flatO (gcL l 0 K [])).length : Nat) : Int)) (.slice none 0 0)
      refine bodyPost_ret (major_results (H := w.heap.size + 1) (v5 := .slice B4 roots.length d4) (v6 := .int .i64 0) rfl rfl rfl z0 z1 z2) rfl (.inl ⟨l, K, A4, c4, B4, d4, HOK.out, HRO.out, HK.out, rfl, ?_, ?_, ?_, HN4.out⟩)
      · exact ((HO4.out.grown pg (fun k hk e => by injection e with e; have h1 := (HO4.out.blk k hk).1; simp at h1; omega)).grown zg (fun k hk e => by injection e with e; have h1 := (HO4.out.blk k hk).1; simp at h1; omega)).mono (by simp; omega)
      · exact ((HB4.out.grown pg (fun k hk e => by injection e with e; have h1 := (HB4.out.blk k hk).1; simp at h1; omega)).grown zg (fun k hk e => by injection e with e; have h1 := (HB4.out.blk k hk).1; simp at h1; omega)).mono (by simp; omega)
      · exact below_grown (below_grown (HBW4.out) HBW4.out.size pg (fun g hg => by injection hg with hg; omega)) (Nat.le_trans HBW4.out.size pg.size) zg (fun g hg => by injection hg with hg; omega)
    · obtain ⟨p0, p1, p2, pg⟩ := put3_cells v0 v1 v2 (.slice A4 (flatO (gcL l 0 K [])).length c4) (.int .i64 (((flatO (gcL l 0 K [])).length : Nat) : Int)) (.slice none 0 0)
      obtain ⟨z0, z1, z2, zg⟩ := put3_cells ((keep3 w4 (show w2.heap.size ≠ w.heap.size + 1 by omega) _ _ _ 0).trans y0) ((keep3 w4 (show w2.heap.size ≠ w.heap.size + 1 by omega) _ _ _ 1).trans y1) ((keep3 w4 (show w2.heap.size ≠ w.heap.size + 1 by omega) _ _ _ 2).trans y2) (.slice A4 (flatO (gcL l 0 K [])).length c4) (.int .i64 (((flatO (gcL l 0 K [])).length : Nat) : Int)) (.slice none 0 0)
      refine bodyPost_ret (major_results (H := w.heap.size + 1) (v5 := .slice B4 roots.length d4) (v6 := .int .i64 0) rfl rfl rfl z0 z1 z2) rfl (.inl ⟨l, K, A4, c4, B4, d4, HOK.out, HRO.out, HK.out, rfl, ?_, ?_, ?_, HN4.out⟩)
      · exact ((HO4.out.grown pg (fun k hk e => by injection e with e; have h1 := (HO4.out.blk k hk).1; omega)).grown zg (fun k hk e => by injection e with e; have h1 := (HO4.out.blk k hk).1; omega)).mono (by omega)
      · exact ((HB4.out.grown pg (fun k hk e => by injection e with e; have h1 := (HB4.out.blk k hk).1; omega)).grown zg (fun k hk e => by injection e with e; have h1 := (HB4.out.blk k hk).1; omega)).mono (by omega)
      · exact below_grown (below_grown (HBW4.out) HBW4.out.size pg (fun g hg => by injection hg with hg; omega)) (Nat.le_trans HBW4.out.size pg.size) zg (fun g hg => by injection hg with hg; omega)
  · have HB2 := Lib.hid hb
    have HB02 := Lib.hid (HB1.out.trans (hb.mono HB1.out.size))
    have HBX2 := Lib.hid (HBOX.out.1.below hb)
    have HFZ := Lib.hid (show ∀ o, w2.frozen? ⟨w.heap.size + 1, o, none⟩ = false from fun o => (grown_frozen (grown_below (g := none) hb) (by have := HZ1.out; omega) (by simp)).trans (HBOX.out.2 o))
    obtain ⟨b0, b1, b2, b3⟩ := HBX2.out
    have f0 := HFZ.out 0
    have f1 := HFZ.out 1
    have f2 := HFZ.out 2
    have x0 : (x != 0) = true := by simpa using hx
    have HPT3 := Lib.hid (fun u0 u1 u2 => put3_cells b0 b1 b2 u0 u1 u2)
    clear hb a0 a1 a2 a3
    go_wp2_with fail
    obtain ⟨z0, z1, z2, zg⟩ := HPT3.out (.slice none 0 0) (.int .i64 0) (.slice none 0 0)
    refine bodyPost_ret (major_results (H := w.heap.size + 1) (v5 := .slice none 0 0) (v6 := .int .i64 x) rfl rfl rfl z0 z1 z2) rfl (.inr ⟨hno, x, hx, rfl, below_grown HB02.out HB02.out.size zg (fun g hg => by injection hg with hg; omega)⟩)
end Go.Proofs.Ytkdbnkkdohkhjaa
namespace Go.Proofs.Ytkdbnkkdohkhjaa
open Go.RowKit
set_option linter.unusedVariables false
theorem cloneI_any (A : Option Addr) (c : Nat) (l : List Int) (w : World) (hR : Rd w 1 (tmC (lst l)) A l.length) (hA : A = none → l.length = 0) (hl : l.length ≤ 17592186044416) :
    Calls Try.prog 27 #[.slice A l.length c] w fun e w' => ∃ A' c', e = .returned (.slice A' l.length c') ∧ OwnI w' w.heap.size (.slice A' l.length c') l ∧ Below w.heap.size w w' := by
  refine (cloneInt A l.length c (tmC (lst l)) w hR (tmC_len _) (tmC_one _) hA (by omega)).mono ?_
  rintro e w1 ⟨v1, rfl, hown1, hb1⟩
  rw [flatC_lst] at hown1
  obtain ⟨A1, c1, rfl, _, _, _⟩ := own_any hown1
  exact ⟨A1, c1, rfl, hown1, hb1⟩
def DupPost (h : List Nat) (old : Int) (late : List Int) (w : World) (e : Ending) (w' : World) : Prop := ∃ A c B d, e = .returned (.agg #[.slice A h.length c, .int .i64 old, .slice B late.length d]) ∧ OwnU w' w.heap.size (.slice A h.length c) h ∧ OwnI w' w.heap.size (.slice B late.length d) late ∧ Below w.heap.size w w' ∧ ∀ k, (Value.slice A h.length c).ownBlock = some k → (Value.slice B late.length d).ownBlock ≠ some k
theorem dup_results {tmps : Array Value} {wz : World} {H : Nat} {u0 u1 u2 : Value} (t2 : tmps.getD 2 undef = .pointer (some ⟨H, 0, none⟩))
    (z0 : wz.cell? ⟨H, 0, none⟩ = some u0) (z1 : wz.cell? ⟨H, 1, none⟩ = some u1) (z2 : wz.cell? ⟨H, 2, none⟩ = some u2) :
    (results Try.f36 tmps).run Try.prog wz = .ok (.agg #[u0, u1, u2]) wz := by
  simp only [Array.getD_eq_getD_getElem?] at t2
  simp [results, Try.results36, go_sem, t2, z0, z1, z2]
set_option maxHeartbeats 8000000 in
set_option maxRecDepth 100000 in
theorem dup_any (h : List Nat) (hA lA : Option Addr) (hc lc : Nat) (old : Int) (late : List Int) (w : World) (hH : Su w (.slice hA h.length hc) h) (hlen : h.length ≤ 17592186044416) (hL : Rd w 1 (tmC (lst late)) lA late.length) (hLn : lA = none → late.length = 0) (hll : late.length ≤ 17592186044416) :
    Calls Try.prog 36 #[.agg #[.slice hA h.length hc, .int .i64 old, .slice lA late.length lc]] w (DupPost h old late w) := by
  have HH := Lib.hid hH
  have HL := Lib.hid hL
  have HLN := Lib.hid hLn
  clear hH hL hLn
  obtain ⟨W1, hW1⟩ : ∃ W1, W1 = (w.alloc (.cells #[.slice hA h.length hc, .int .i64 old, .slice lA late.length lc] 26)).alloc (.cells #[.slice none 0 0, .int .i64 0, .slice none 0 0] 26) := ⟨_, rfl⟩
  have HB1 := Lib.hid (show Below w.heap.size w W1.drew by rw [hW1]; exact (((Below.refl _ _).alloc (Nat.le_refl _) _).alloc (by simp) _).drew)
  have HZ1 := Lib.hid (show W1.drew.heap.size = w.heap.size + 2 by rw [hW1]; show ((w.alloc _).alloc _).heap.size = _; simp)
  have HAG := Lib.hid (show AgB W1.drew w.heap.size hA h.length hc old lA late.length lc from by
    rw [hW1]
    exact ((AgB.new w hA h.length hc old lA late.length lc 26).below ((Below.refl _ _).alloc (Nat.le_refl _) _)).below (Below.refl _ _).drew)
  have HBOX := Lib.hid (show AgB W1.drew (w.heap.size + 1) none 0 0 0 none 0 0 ∧ ∀ o, W1.drew.frozen? ⟨w.heap.size + 1, o, none⟩ = false from by
    rw [hW1]
    have h1 := AgB.new (w.alloc (.cells #[.slice hA h.length hc, .int .i64 old, .slice lA late.length lc] 26)) none 0 0 0 none 0 0 26
    have h2 : (w.alloc (.cells #[.slice hA h.length hc, .int .i64 old, .slice lA late.length lc] 26)).heap.size = w.heap.size + 1 := by simp
    rw [h2] at h1
    exact ⟨h1.below (Below.refl _ _).drew, fun o => by show ((w.alloc _).alloc _).frozen? _ = false; simp [go_sem]⟩)
  have HFR := Lib.hid (show ∀ w', Below W1.drew.heap.size W1.drew w' → ∀ o, w'.frozen? ⟨w.heap.size + 1, o, none⟩ = false from fun w' hb o => (grown_frozen (grown_below (g := none) hb) HBOX.out.1.lt (by simp)).trans (HBOX.out.2 o))
  obtain ⟨a0, a1, a2, a3⟩ := HAG.out
  go_enter Try.func36, Try.ntmps36
  go_wp2_with fail
  rw [← hW1]
  clear hW1
  go_region_held3 (fun W => W.cell? ⟨w.heap.size, 0, none⟩ = some (.slice hA h.length hc) ∧ W.cell? ⟨w.heap.size, 1, none⟩ = some (.int .i64 old) ∧ W.cell? ⟨w.heap.size, 2, none⟩ = some (.slice lA late.length lc))
    (first | with_reducible exact ⟨a0, a1, a2⟩ | with_reducible exact ⟨r0, r1, r2⟩ | with_reducible exact ⟨s0, s1, s2⟩ | with_reducible exact ⟨(keep3 _ (Nat.succ_ne_self _) _ _ _ _).trans s0, (keep3 _ (Nat.succ_ne_self _) _ _ _ _).trans s1, (keep3 _ (Nat.succ_ne_self _) _ _ _ _).trans s2⟩ | go_keep)
    (first
      | (go_at_call 25; refine (cloneH_any hA hc h W1.drew (HH.out.below HB1.out) hlen).mono ?_; rintro e w3 ⟨A3, c3, rfl, ho3, hb3⟩; obtain ⟨r0, r1, r2, r3⟩ := HAG.out.below hb3; have HO3 := Lib.hid ho3; have HB3 := Lib.hid hb3; clear ho3 hb3)
      | (go_at_call 27; refine (cloneI_any lA lc late w3 ((HL.out.below HB1.out).below HB3.out) HLN.out hll).mono ?_; rintro e w4 ⟨B4, d4, rfl, ho4, hb4⟩; obtain ⟨s0, s1, s2, s3⟩ := (HAG.out.below HB3.out).below hb4; have HI4 := Lib.hid ho4; have HB4 := Lib.hid hb4; obtain ⟨y0, y1, y2, y3⟩ := (HBOX.out.1.below HB3.out).below hb4; have HB14 := Lib.hid (HB3.out.trans (hb4.mono HB3.out.size)); have x0 := HFR.out w4 HB14.out 0; have x1 := HFR.out w4 HB14.out 1; have x2 := HFR.out w4 HB14.out 2; clear ho4 hb4)
      | (go_at_call 27; refine (cloneI_any lA lc late W1.drew (HL.out.below HB1.out) HLN.out hll).mono ?_; rintro e w3 ⟨B3, d3, rfl, ho3, hb3⟩; obtain ⟨r0, r1, r2, r3⟩ := HAG.out.below hb3; have HI3 := Lib.hid ho3; have HB3 := Lib.hid hb3; clear ho3 hb3)
      | (go_at_call 25; refine (cloneH_any hA hc h w3 ((HH.out.below HB1.out).below HB3.out) hlen).mono ?_; rintro e w4 ⟨A4, c4, rfl, ho4, hb4⟩; obtain ⟨s0, s1, s2, s3⟩ := (HAG.out.below HB3.out).below hb4; have HO4 := Lib.hid ho4; have HB4 := Lib.hid hb4; obtain ⟨y0, y1, y2, y3⟩ := (HBOX.out.1.below HB3.out).below hb4; have HB14 := Lib.hid (HB3.out.trans (hb4.mono HB3.out.size)); have x0 := HFR.out w4 HB14.out 0; have x1 := HFR.out w4 HB14.out 1; have x2 := HFR.out w4 HB14.out 2; clear ho4 hb4))
  go_wp2_with fail
  obtain ⟨z0, z1, z2, zg⟩ := put3_cells y0 y1 y2 (.slice A3 h.length c3) (.int .i64 old) (.slice B4 late.length d4)
  have hz1 := HZ1.out
  have hz3 := HB3.out.size
  refine bodyPost_ret (dup_results (H := w.heap.size + 1) rfl z0 z1 z2) rfl ⟨A3, c3, B4, d4, rfl, ?_, ?_, ?_, fun k hk e => ?_⟩
  · exact ((HO3.out.below HB4.out).grown zg (fun k hk e => by injection e with e; have h1 := (HO3.out.blk k hk).1; omega)).mono (by omega)
  · exact (HI4.out.grown zg (fun k hk e => by injection e with e; have h1 := (HI4.out.blk k hk).1; omega)).mono (by omega)
  · exact below_grown (HB1.out.trans (HB14.out.mono HB1.out.size)) (by have := HB14.out.size; omega) zg (fun g hg => by injection hg with hg; omega)
  · have h1 := (HO3.out.blk k hk).2
    have h2 := (HI4.out.blk k e).1
    omega
end Go.Proofs.Ytkdbnkkdohkhjaa
namespace Go.Proofs.Ytkdbnkkdohkhjaa
open Go.RowKit
set_option linter.unusedVariables false
/-- the parts of the object at a place -/
def pAt (h : List Nat) (x : Int) : List Nat := (obR h x.toNat).parts
/-- the parts of the first late ones -/
def ltW (h : List Nat) (late : List Int) (i : Nat) : List Nat := (late.take i).flatMap (pAt h)
theorem ltW_zero (h : List Nat) (late : List Int) : ltW h late 0 = [] := rfl
theorem ltW_succ {h : List Nat} {late : List Int} {i : Nat} {x : Int} (hx : late[i]? = some x) : ltW h late (i + 1) = ltW h late i ++ pAt h x := by
  unfold ltW
  rw [List.take_add_one, hx]
  simp
theorem words_len (o : Ob) : o.parts.length + 1 ≤ (wordsO o).length := by rw [wordsO_len]; omega
theorem posO_next {l : List Ob} {j k : Nat} (h : posO l j < posO l k) (hj : j < l.length) : posO l (j + 1) ≤ posO l k := by
  by_cases hjk : j < k
  · by_cases hkl : k ≤ l.length
    · by_cases e : j + 1 = k
      · rw [e]; exact Nat.le_refl _
      · exact Nat.le_of_lt (posO_lt k (by omega) hkl)
    · have h1 : posO l k = (flatO l).length := by unfold posO; rw [List.take_of_length_le (by omega)]
      rw [h1]
      exact posO_le _ _
  · rcases Nat.lt_or_ge k j with h1 | h1
    · have := posO_lt (l := l) j h1 (by omega); omega
    · obtain rfl : j = k := by omega
      omega
theorem late_at {h : List Nat} {old : Int} {late : List Int} {l : List Ob} (H : OkA h old late l) {i : Nat} {x : Int} (hx : late[i]? = some x) : ∃ k o, l[k]? = some o ∧ x = ((posO l k : Nat) : Int) ∧ pAt h x = o.parts := by
  obtain ⟨⟨a, ha, k, o, hk, hp⟩, _, _⟩ := H.lateOk i x hx
  refine ⟨k, o, hk, by omega, ?_⟩
  obtain ⟨_, h2⟩ := obs_at H.obs hk
  have : x.toNat = posO l k := by omega
  unfold pAt
  rw [this, h2]
theorem ltW_len {h : List Nat} {old : Int} {late : List Int} {l : List Ob} (H : OkA h old late l) : ∀ i, i ≤ late.length → (ltW h late i).length ≤ 4000 ∧ ∀ (j : Nat) (y : Int), i ≤ j → late[j]? = some y → ((ltW h late i).length : Int) ≤ y := by
  intro i
  induction i with
  | zero =>
    intro _
    rw [ltW_zero]
    refine ⟨by simp, fun j y _ hy => ?_⟩
    obtain ⟨⟨a, ha, _⟩, _⟩ := H.lateOk j y hy
    simp
    omega
  | succ i ih =>
    intro hi
    obtain ⟨x, hx⟩ : ∃ x, late[i]? = some x := ⟨_, List.getElem?_eq_getElem (by omega)⟩
    obtain ⟨h1, h2⟩ := ih (by omega)
    obtain ⟨k, o, hk, hxk, hp⟩ := late_at H hx
    have hkl := (List.getElem?_eq_some_iff.1 hk).1
    have h3 := h2 i x (Nat.le_refl _) hx
    have h4 := posO_succ hk
    have h5 := words_len o
    have h6 : posO l (k + 1) ≤ 4000 := by have := posO_le l (k + 1); rw [← H.obs.1] at this; have := H.len; omega
    rw [ltW_succ hx, hp, List.length_append]
    refine ⟨by omega, fun j y hj hy => ?_⟩
    obtain ⟨k', o', hk', hyk, _⟩ := late_at H hy
    obtain ⟨_, _, h7⟩ := H.lateOk j y hy
    have h8 := h7 i x (by omega) hx
    have h9 := posO_next (l := l) (j := k) (k := k') (by omega) hkl
    omega
theorem ltW_ok {h : List Nat} {old : Int} {late : List Int} {l : List Ob} (H : OkA h old late l) : ∀ i, i ≤ late.length → ∀ p ∈ ltW h late i, wordOk l p ∧ p < 18446744073709551616 := by
  intro i
  induction i with
  | zero => intro _ p hp; rw [ltW_zero] at hp; cases hp
  | succ i ih =>
    intro hi p hp
    obtain ⟨x, hx⟩ : ∃ x, late[i]? = some x := ⟨_, List.getElem?_eq_getElem (by omega)⟩
    rw [ltW_succ hx] at hp
    rcases List.mem_append.1 hp with hp | hp
    · exact ih (by omega) p hp
    · obtain ⟨k, o, hk, hxk, he⟩ := late_at H hx
      rw [he] at hp
      exact ⟨(H.parts k o hk p hp).1, (H.obs.2 o (List.mem_of_getElem? hk)).parts p hp⟩
theorem old_at {h : List Nat} {old : Int} {late : List Int} {l : List Ob} (H : OkA h old late l) : ∃ kf, kf ≤ l.length ∧ old = ((posO l kf : Nat) : Int) := by
  rcases H.oldOk with e | ⟨a, ha, k, o, hk, hp⟩
  · refine ⟨l.length, Nat.le_refl _, ?_⟩
    rw [e, H.obs.1]
    unfold posO
    rw [List.take_length]
  · exact ⟨k, Nat.le_of_lt (List.getElem?_eq_some_iff.1 hk).1, by omega⟩
theorem late_gc {h : List Nat} {old : Int} {late : List Int} {l : List Ob} (H : OkA h old late l) {kf : Nat} (hk : kf ≤ l.length) (ho : old = ((posO l kf : Nat) : Int)) : ∀ (i : Nat) (x : Int), late[i]? = some x → (∃ k, k < kf ∧ x = ((posO l k : Nat) : Int)) ∧ ∀ (j : Nat) (y : Int), j < i → late[j]? = some y → y < x := by
  intro i x hx
  obtain ⟨_, h2, h3⟩ := H.lateOk i x hx
  obtain ⟨k, o, hk', hxk, _⟩ := late_at H hx
  refine ⟨⟨k, ?_, hxk⟩, h3⟩
  rcases Nat.lt_or_ge k kf with h1 | h1
  · exact h1
  · exfalso
    have hkl := (List.getElem?_eq_some_iff.1 hk').1
    by_cases e : kf = k
    · subst e; omega
    · have := posO_lt (l := l) k (j := kf) (by omega) (by omega); omega
theorem late_few {h : List Nat} {old : Int} {late : List Int} {l : List Ob} (H : OkA h old late l) : late.length ≤ 4000 := by
  have key : ∀ (i : Nat) (x : Int), late[i]? = some x → (i : Int) ≤ x := by
    intro i
    induction i with
    | zero => intro x hx; obtain ⟨⟨a, ha, _⟩, _⟩ := H.lateOk 0 x hx; omega
    | succ i ih =>
      intro x hx
      have hl := (List.getElem?_eq_some_iff.1 hx).1
      obtain ⟨y, hy⟩ : ∃ y, late[i]? = some y := ⟨_, List.getElem?_eq_getElem (by omega)⟩
      have h1 := ih y hy
      obtain ⟨_, _, h3⟩ := H.lateOk _ x hx
      have := h3 i y (by omega) hy
      omega
  rcases Nat.lt_or_ge 4000 late.length with h1 | h1
  · obtain ⟨x, hx⟩ : ∃ x, late[4000]? = some x := ⟨_, List.getElem?_eq_getElem h1⟩
    have h2 := key 4000 x hx
    obtain ⟨k, o, hk, hxk, _⟩ := late_at H hx
    have hkl := (List.getElem?_eq_some_iff.1 hk).1
    have h3 := posO_succ hk
    have h4 := words_len o
    have h5 := posO_le l (k + 1)
    rw [← H.obs.1] at h5
    have := H.len
    omega
  · exact h1
end Go.Proofs.Ytkdbnkkdohkhjaa
namespace Go.Proofs.Ytkdbnkkdohkhjaa
open Go.RowKit
set_option linter.unusedVariables false
/-- the late ones behind a store -/
def setLate (old : Int) (late : List Int) (a : Int) (x : Nat) : List Int := if tgtB x = true ∧ old ≤ ((atOf x : Nat) : Int) ∧ a < old ∧ a ∉ late then srt (late ++ [a]) else late
theorem setLate_mem {old : Int} {late : List Int} {a : Int} {x : Nat} {y : Int} (h : y ∈ late) : y ∈ setLate old late a x := by
  unfold setLate
  split
  · exact (srt_perm _).mem_iff.2 (List.mem_append_left _ h)
  · exact h
theorem mem_setLate {old : Int} {late : List Int} {a : Int} {x : Nat} {y : Int} (h : y ∈ setLate old late a x) : y ∈ late ∨ (y = a ∧ a < old) := by
  unfold setLate at h
  split at h
  · rename_i hc
    rcases List.mem_append.1 ((srt_perm _).mem_iff.1 h) with h | h
    · exact .inl h
    · exact .inr ⟨by simpa using h, hc.2.2.1⟩
  · exact .inl h
theorem self_setLate {old : Int} {late : List Int} {a : Int} {x : Nat} (h1 : tgtB x = true) (h2 : old ≤ ((atOf x : Nat) : Int)) (h3 : a < old) : a ∈ setLate old late a x := by
  unfold setLate
  by_cases hm : a ∈ late
  · rw [if_neg (fun h => h.2.2.2 hm)]; exact hm
  · rw [if_pos ⟨h1, h2, h3, hm⟩]
    exact (srt_perm _).mem_iff.2 (List.mem_append_right _ (by simp))
theorem setLate_len (old : Int) (late : List Int) (a : Int) (x : Nat) : (setLate old late a x).length ≤ late.length + 1 := by
  unfold setLate
  split
  · rw [srt_len, List.length_append]; simp
  · omega
theorem late_pw {h : List Nat} {old : Int} {late : List Int} {l : List Ob} (H : OkA h old late l) : (∀ x ∈ late, (∃ a : Nat, x = a ∧ begO l a) ∧ x < old) ∧ late.Pairwise (· < ·) := by
  refine ⟨fun x hx => ?_, List.pairwise_iff_getElem.2 (fun i j hi hj hij => ?_)⟩
  · obtain ⟨i, hi⟩ := List.mem_iff_getElem?.1 hx
    obtain ⟨h1, h2, _⟩ := H.lateOk i x hi
    exact ⟨h1, h2⟩
  · obtain ⟨_, _, h3⟩ := H.lateOk j late[j] (List.getElem?_eq_getElem hj)
    exact h3 i late[i] hij (List.getElem?_eq_getElem hi)
theorem late_of_pw {l : List Ob} {old : Int} {late : List Int} (h1 : ∀ x ∈ late, (∃ a : Nat, x = a ∧ begO l a) ∧ x < old) (h2 : late.Pairwise (· < ·)) : ∀ (i : Nat) (x : Int), late[i]? = some x → (∃ a : Nat, x = a ∧ begO l a) ∧ x < old ∧ ∀ (j : Nat) (y : Int), j < i → late[j]? = some y → y < x := by
  intro i x hx
  obtain ⟨hi, rfl⟩ := List.getElem?_eq_some_iff.1 hx
  obtain ⟨g1, g2⟩ := h1 _ (List.getElem_mem hi)
  refine ⟨g1, g2, fun j y hj hy => ?_⟩
  obtain ⟨hjl, rfl⟩ := List.getElem?_eq_some_iff.1 hy
  exact List.pairwise_iff_getElem.1 h2 j i hjl hi hj
theorem setLate_pw {old : Int} {late : List Int} {a : Int} {x : Nat} (h : late.Pairwise (· < ·)) : (setLate old late a x).Pairwise (· < ·) := by
  unfold setLate
  split
  · rename_i hc
    have hnd : (late ++ [a]).Nodup := by
      rw [List.nodup_append]
      refine ⟨h.imp (fun h => by omega), by simp, fun u hu v hv e => ?_⟩
      obtain rfl : v = a := by simpa using hv
      subst e
      exact hc.2.2.2 hu
    have hnd2 : (srt (late ++ [a])).Nodup := (srt_perm _).nodup_iff.2 hnd
    exact (List.Pairwise.and (srt_pairwise (late ++ [a])) hnd2).imp (fun ⟨h1, h2⟩ => by omega)
  · exact h
theorem posO_set {l : List Ob} {k : Nat} {o o' : Ob} (hk : l[k]? = some o) (hw : (wordsO o').length = (wordsO o).length) (j : Nat) : posO (l.set k o') j = posO l j := by
  induction j with
  | zero => rfl
  | succ j ih =>
    by_cases hj : j < l.length
    · have e2 : l[j]? = some l[j] := List.getElem?_eq_getElem hj
      by_cases e : k = j
      · subst e
        rw [hk] at e2
        injection e2 with e2
        rw [posO_succ (o := o') (List.getElem?_set_self hj), posO_succ hk, ih, hw]
      · rw [posO_succ (o := l[j]) (by rw [List.getElem?_set_ne e]; exact e2), posO_succ e2, ih]
    · have h1 : posO (l.set k o') (j + 1) = posO (l.set k o') j := by unfold posO; rw [List.take_of_length_le (by rw [List.length_set]; omega), List.take_of_length_le (by rw [List.length_set]; omega)]
      have h2 : posO l (j + 1) = posO l j := by unfold posO; rw [List.take_of_length_le (by omega), List.take_of_length_le (by omega)]
      rw [h1, h2, ih]
theorem begO_set {l : List Ob} {k : Nat} {o o' : Ob} (hk : l[k]? = some o) (hw : (wordsO o').length = (wordsO o).length) {a : Nat} (h : begO l a) : begO (l.set k o') a := by
  obtain ⟨j, q, hj, hp⟩ := h
  have hjl := (List.getElem?_eq_some_iff.1 hj).1
  refine ⟨j, (l.set k o')[j]'(by rw [List.length_set]; exact hjl), List.getElem?_eq_getElem _, ?_⟩
  rw [posO_set hk hw]
  exact hp
theorem wordOk_set {l : List Ob} {k : Nat} {o o' : Ob} (hk : l[k]? = some o) (hw : (wordsO o').length = (wordsO o).length) {p : Nat} (h : wordOk l p) : wordOk (l.set k o') p := ⟨h.1, fun ht => begO_set hk hw (h.2 ht)⟩
/-- a cell that is not gone -/
structure CellAt (l : List Ob) (k : Nat) (o : Ob) : Prop where
  at' : l[k]? = some o
  kind : o.kind = 5
  one : o.parts.length = 1
theorem CellAt.hd {h : List Nat} {l : List Ob} {k : Nat} {o : Ob} (H : CellAt l k o) (hO : ObsOf h l) : (hdW o).length = 1 := by
  have hg := hO.2 o (List.mem_of_getElem? H.at')
  obtain ⟨_, h2, _, _, h5⟩ := okOb_iff.1 hg.ok
  rw [H.kind] at h2 h5
  have ht : o.text.size = 0 := by rcases h2 with h | h | h <;> omega
  unfold hdW numW
  rw [H.kind, ht]
  simp [hasN, tw_len]
theorem CellAt.words {h : List Nat} {l : List Ob} {k : Nat} {o : Ob} (H : CellAt l k o) (hO : ObsOf h l) (x : Nat) : (wordsO (withParts o [x])).length = (wordsO o).length := by
  rw [wordsO_len, wordsO_len]
  show 1 + (numW (withParts o [x])).length + (o.text.size + 7) / 8 + [x].length = _
  rw [H.one]
  rfl
theorem withParts_get (o : Ob) (x : Nat) : wordsO (withParts o [x]) = hdW (withParts o [x]) ++ [x] := wordsO_hd _
/-- a heap whose cell is set -/
theorem set_heap {h : List Nat} {l : List Ob} {k x : Nat} {o : Ob} (hO : ObsOf h l) (H : CellAt l k o) (hx : x < 18446744073709551616) : posO l k + 1 < h.length ∧ ObsOf (h.set (posO l k + 1) x) (l.set k (withParts o [x])) := by
  have hg := hO.2 o (List.mem_of_getElem? H.at')
  obtain ⟨p, hp⟩ : ∃ p, o.parts = [p] := List.length_eq_one_iff.1 H.one
  have hs := flat_split H.at'
  have hd1 := H.hd hO
  obtain ⟨d, hd⟩ : ∃ d, hdW o = [d] := List.length_eq_one_iff.1 hd1
  have hw : wordsO o = [d, p] := by rw [wordsO_hd, hd, hp]; rfl
  have hw' : wordsO (withParts o [x]) = [d, x] := by rw [withParts_get, hdW_parts o (by rw [H.one]; rfl), hd]; rfl
  have hlen : (flatO (l.take k)).length = posO l k := rfl
  rw [hw] at hs
  refine ⟨?_, ?_, fun q hq => ?_⟩
  · rw [hO.1, hs, List.length_append, List.length_append, hlen]
    simp
    omega
  · rw [flat_set H.at', hw', hO.1, hs, ← hlen]
    rw [List.append_assoc, List.append_assoc, List.set_append_right (h := by omega)]
    simp
  · rcases List.mem_or_eq_of_mem_set hq with hq | rfl
    · exact hO.2 q hq
    · refine ⟨withParts_ok hg.ok (by rw [H.one]; rfl), hg.num, fun y hy => ?_⟩
      obtain rfl : y = x := by simpa [withParts] using hy
      exact hx
theorem set_ages {h : List Nat} {old : Int} {late : List Int} {l : List Ob} {k x : Nat} {o : Ob} (hA : OkA h old late l) (H : CellAt l k o) (hx : x < 18446744073709551616) (hw : wordOk l x) : OkA (h.set (posO l k + 1) x) old (setLate old late ((posO l k : Nat) : Int) x) (l.set k (withParts o [x])) := by
  have hwd := H.words hA.obs x
  have hb : ∀ {a : Nat}, begO l a → begO (l.set k (withParts o [x])) a := fun hb => begO_set H.at' hwd hb
  have hkl := (List.getElem?_eq_some_iff.1 H.at').1
  obtain ⟨g1, g2⟩ := late_pw hA
  refine ⟨by rw [List.length_set]; exact hA.len, (set_heap hA.obs H hx).2, ?_, late_of_pw (fun y hy => ?_) (setLate_pw g2), fun j q hj p hp => ?_⟩
  · rw [List.length_set]
    rcases hA.oldOk with e | ⟨a, e, hba⟩
    · exact .inl e
    · exact .inr ⟨a, e, hb hba⟩
  · rcases mem_setLate hy with hy | ⟨rfl, hlt⟩
    · obtain ⟨⟨a, e, hba⟩, hlt⟩ := g1 y hy
      exact ⟨⟨a, e, hb hba⟩, hlt⟩
    · exact ⟨⟨posO l k, rfl, hb ⟨k, o, H.at', rfl⟩⟩, hlt⟩
  · rw [posO_set H.at' hwd]
    by_cases e : k = j
    · subst e
      rw [List.getElem?_set_self hkl] at hj
      injection hj with hj
      subst hj
      obtain rfl : p = x := by simpa [withParts] using hp
      refine ⟨wordOk_set H.at' hwd hw, fun ht h2 h3 => self_setLate ?_ h2 h3⟩
      unfold tgtB
      rw [hw.1, ht]
      rfl
    · rw [List.getElem?_set_ne e] at hj
      obtain ⟨w1, w2⟩ := hA.parts j q hj p hp
      exact ⟨wordOk_set H.at' hwd w1, fun ht h2 h3 => setLate_mem (w2 ht h2 h3)⟩
end Go.Proofs.Ytkdbnkkdohkhjaa
namespace Go.Proofs.Ytkdbnkkdohkhjaa
open Go.RowKit
set_option linter.unusedVariables false
def SetYes (h : List Nat) (old : Int) (late : List Int) (a : Int) (x : Nat) (w : World) (e : Ending) (w' : World) : Prop := ∃ l k o A c B d, OkA h old late l ∧ CellAt l k o ∧ a = ((posO l k : Nat) : Int) ∧ wordOk l x ∧
  e = .returned (.tuple #[.agg #[.slice A h.length c, .int .i64 old, .slice B (setLate old late a x).length d], .int .i64 0]) ∧
  OwnU w' w.heap.size (.slice A h.length c) (h.set (posO l k + 1) x) ∧ OwnI w' w.heap.size (.slice B (setLate old late a x).length d) (setLate old late a x) ∧ Below w.heap.size w w'
def SetNo (w : World) (e : Ending) (w' : World) : Prop := ∃ x : Int, x ≠ 0 ∧ e = .returned (.tuple #[.agg #[.slice none 0 0, .int .i64 0, .slice none 0 0], .int .i64 x]) ∧ Below w.heap.size w w'
theorem set_results {tmps : Array Value} {wz : World} {H : Nat} {u0 u1 u2 v7 : Value} (t6 : tmps.getD 6 undef = .pointer (some ⟨H, 0, none⟩)) (t7 : tmps.getD 7 undef = v7)
    (z0 : wz.cell? ⟨H, 0, none⟩ = some u0) (z1 : wz.cell? ⟨H, 1, none⟩ = some u1) (z2 : wz.cell? ⟨H, 2, none⟩ = some u2) :
    (results Try.f9 tmps).run Try.prog wz = .ok (.tuple #[.agg #[u0, u1, u2], v7]) wz := by
  simp only [Array.getD_eq_getD_getElem?] at t6 t7
  simp [results, Try.results9, go_sem, t6, t7, z0, z1, z2]
set_option maxHeartbeats 8000000 in
set_option maxRecDepth 100000 in
theorem set_any (h : List Nat) (hA lA : Option Addr) (hc lc : Nat) (old : Int) (late : List Int) (a : Int) (x : Nat) (w : World) (hH : Su w (.slice hA h.length hc) h) (h64 : All64 h) (hlen : h.length ≤ 17592186044416) (hL : Rd w 1 (tmC (lst late)) lA late.length) (hLn : lA = none → late.length = 0) (hll : late.length ≤ 17592186044416) (hwl : ∀ x ∈ late, Wf x) (hwo : Wf old) (hwa : Wf a) (hx : x < 18446744073709551616) :
    Calls Try.prog 9 #[.agg #[.slice hA h.length hc, .int .i64 old, .slice lA late.length lc], .int .i64 a, .int .u64 (x : Int)] w fun e w' => SetYes h old late a x w e w' ∨ SetNo w e w' := by
  have HH := Lib.hid hH
  have H64 := Lib.hid h64
  have HL := Lib.hid hL
  have HLN := Lib.hid hLn
  have HWL := Lib.hid hwl
  have HWO := Lib.hid hwo
  have HWA := Lib.hid hwa
  clear hH h64 hL hLn hwl hwo hwa
  obtain ⟨W1, hW1⟩ : ∃ W1, W1 = (w.alloc (.cells #[.slice hA h.length hc, .int .i64 old, .slice lA late.length lc] 26)).alloc (.cells #[.slice none 0 0, .int .i64 0, .slice none 0 0] 26) := ⟨_, rfl⟩
  have HB1 := Lib.hid (show Below w.heap.size w W1 by rw [hW1]; exact ((Below.refl _ _).alloc (Nat.le_refl _) _).alloc (by simp) _)
  have HZ1 := Lib.hid (show W1.heap.size = w.heap.size + 2 by rw [hW1]; simp)
  have HAG := Lib.hid (show AgB W1 w.heap.size hA h.length hc old lA late.length lc from by
    rw [hW1]
    exact (AgB.new w hA h.length hc old lA late.length lc 26).below ((Below.refl _ _).alloc (Nat.le_refl _) _))
  have HBOX := Lib.hid (show AgB W1 (w.heap.size + 1) none 0 0 0 none 0 0 ∧ ∀ o, W1.frozen? ⟨w.heap.size + 1, o, none⟩ = false from by
    rw [hW1]
    have h1 := AgB.new (w.alloc (.cells #[.slice hA h.length hc, .int .i64 old, .slice lA late.length lc] 26)) none 0 0 0 none 0 0 26
    have h2 : (w.alloc (.cells #[.slice hA h.length hc, .int .i64 old, .slice lA late.length lc] 26)).heap.size = w.heap.size + 1 := by simp
    rw [h2] at h1
    exact ⟨h1, fun o => by simp [go_sem]⟩)
  obtain ⟨a0, a1, a2, a3⟩ := HAG.out
  have hz1 := HZ1.out
  have HROW := Lib.hid (show ∀ W : World, Su (W.alloc (.cells #[.int .u64 (x : Int)] 27)) (.slice (some ⟨W.heap.size, 0, none⟩) 1 1) [x] from fun W => Su.one W x)
  go_enter Try.func9, Try.ntmps9
  go_wp2_with fail
  rw [← hW1]
  clear hW1
  obtain ⟨W2, hW2⟩ : ∃ W2, W2 = W1.alloc (.cells #[.int .u64 (x : Int)] 27) := ⟨_, rfl⟩
  have HB12 := Lib.hid (show Below W1.heap.size W1 W2 by rw [hW2]; exact (Below.refl _ _).alloc (Nat.le_refl _) _)
  have HB02 := Lib.hid (HB1.out.trans (HB12.out.mono HB1.out.size))
  have HSR := Lib.hid (show Su W2 (.slice (some ⟨w.heap.size + 1 + 1, 0, none⟩) [x].length 1) [x] from by rw [hW2]; have h1 := HROW.out W1; rw [HZ1.out] at h1; exact h1)
  have HZ2 := Lib.hid (show W2.heap.size = w.heap.size + 3 by rw [hW2]; simp; omega)
  rw [← hW2]
  clear hW2
  have HST := Lib.hid (show Calls Try.prog 35 #[.agg #[.slice hA h.length hc, .int .i64 old, .slice lA late.length lc], .slice (some ⟨w.heap.size + 1 + 1, 0, none⟩) 1 1] W2 fun e w' => StYes h old late [x] W2 e w' ∨ StNo h old late [x] W2 e w' from started_any h [x] hA lA (some ⟨w.heap.size + 1 + 1, 0, none⟩) hc lc 1 old late W2 (HH.out.below HB02.out) H64.out hlen (HL.out.below HB02.out) hll HWL.out HWO.out HSR.out (fun p hp => (List.mem_singleton.1 hp).symm ▸ hx) (show (1 : Nat) ≤ 17592186044416 by omega))
  refine HST.out.mono ?_
  rintro e w3 (⟨l, mb, C, hok, hro, rfl, hidx, hmb, hb⟩ | ⟨-, y, hy, rfl, hb⟩)
  · have HB3 := Lib.hid hb
    have HB03 := Lib.hid (HB02.out.trans (hb.mono HB02.out.size))
    have HB13 := Lib.hid (HB12.out.trans (hb.mono HB12.out.size))
    have hz3 := hb.size
    have HOK := Lib.hid hok
    have HWX := Lib.hid (hro x (by simp))
    have HLOOK := Lib.hid (hidx.look HWA.out)
    have HZ3 := Lib.hid (show w.heap.size + 3 ≤ w3.heap.size by have := HZ2.out; omega)
    have HBX3 := Lib.hid (HBOX.out.1.below HB13.out)
    have HFZ := Lib.hid (show ∀ o, w3.frozen? ⟨w.heap.size + 1, o, none⟩ = false from fun o => (grown_frozen (grown_below (g := none) HB13.out) (by have := HZ1.out; omega) (by simp)).trans (HBOX.out.2 o))
    have HAG3 := Lib.hid (HAG.out.below HB13.out)
    clear hb hok hro hidx hmb a0 a1 a2 a3
    rcases HLOOK.out with ⟨k, o, pA, pc, hk, hak, hOp, -, hlk⟩ | ⟨hno, -, hlk⟩
    · have HK := Lib.hid hk
      have HAK := Lib.hid hak
      obtain ⟨pl, hpl⟩ : ∃ pl, o.parts.length = pl := ⟨_, rfl⟩
      obtain ⟨kd, hkd⟩ : ∃ kd, o.kind = kd := ⟨_, rfl⟩
      obtain ⟨nm, hnm⟩ : ∃ nm, o.num = nm := ⟨_, rfl⟩
      obtain ⟨tx, htx⟩ : ∃ tx, o.text = tx := ⟨_, rfl⟩
      rw [hkd, hnm, htx, hpl] at hlk
      have HPL := Lib.hid hpl
      have HKD := Lib.hid hkd
      clear hk hak hOp hpl hkd hnm htx HLOOK
      by_cases hk5 : kd = 5
      · have d5 : (kd != 5) = false := by simpa using hk5
        have HK5 := Lib.hid hk5
        clear hk5
        by_cases hp0 : pl = 0
        · have HP0 := Lib.hid hp0
          have dp : ((pl : Int) == 0) = true := by simp [hp0]
          obtain ⟨b0, b1, b2, b3⟩ := HBX3.out
          have f0 := HFZ.out 0
          have f1 := HFZ.out 1
          have f2 := HFZ.out 2
          have HPT3 := Lib.hid (fun u0 u1 u2 => put3_cells b0 b1 b2 u0 u1 u2)
          clear hp0
          go_wp2_with fail
          obtain ⟨z0, z1, z2, zg⟩ := HPT3.out (.slice none 0 0) (.int .i64 0) (.slice none 0 0)
          have hzz := Nat.lt_of_lt_of_le b3 zg.size
          refine bodyPost_ret (set_results (H := w.heap.size + 1) (v7 := .int .i64 12) rfl rfl ((keepA _ _ hzz 0).trans z0) ((keepA _ _ hzz 1).trans z1) ((keepA _ _ hzz 2).trans z2)) rfl (.inr ⟨12, by decide, rfl, (below_grown HB03.out HB03.out.size zg (fun g hg => by injection hg with hg; omega)).alloc (Nat.le_trans HB03.out.size zg.size) _⟩)
        · have HCL := Lib.hid (show CellAt l k o from ⟨HK.out, by rw [HKD.out, HK5.out], by
            have hg := HOK.out.obs.2 o (List.mem_of_getElem? HK.out)
            have h1 := (okOb_iff.1 hg.ok).2.2.2.1
            rw [HKD.out, HK5.out] at h1
            have h2 : mostP 5 = 1 := by decide
            rw [h2, HPL.out] at h1
            rw [HPL.out]
            omega⟩)
          have hfit := (set_heap HOK.out.obs HCL.out hx).1
          have dp : ((pl : Int) == 0) = false := by simp; omega
          have h4000 := HOK.out.len
          obtain ⟨q, hq⟩ : ∃ q, posO l k = q := ⟨_, rfl⟩
          rw [hq] at hfit
          have haq : a = (q : Int) := by have := HAK.out; omega
          have HQ := Lib.hid hq
          subst haq
          clear hq hp0
          obtain ⟨W4, hW4⟩ : ∃ W4, W4 = w3.alloc (.cells #[.int .i64 (q : Int), .int .i64 kd, .int .i64 nm, .string tx, .slice pA pl pc] 33) := ⟨_, rfl⟩
          have HB34 := Lib.hid (show Below w3.heap.size w3 W4 by rw [hW4]; exact (Below.refl _ _).alloc (Nat.le_refl _) _)
          have HB04 := Lib.hid (HB03.out.trans (HB34.out.mono HB03.out.size))
          have HAG4 := Lib.hid (HAG3.out.below HB34.out)
          obtain ⟨a0, a1, a2, a3⟩ := HAG3.out
          go_wp2_with fail
          rw [← hW4]
          clear hW4
          refine (dup_any h hA lA hc lc old late W4 (HH.out.below HB04.out) hlen (HL.out.below HB04.out) HLN.out hll).mono ?_
          rintro e w5 ⟨A5, c5, B5, d5, rfl, ho5, hi5, hb5, hne5⟩
          obtain ⟨g, cap, hv, -, hglt, -⟩ := own_form ho5 (by omega)
          have hA5 : A5 = some ⟨g, 0, none⟩ := by injection hv
          subst hA5
          clear hv cap
          obtain ⟨cG, fG⟩ : w5.cell? ⟨g, q + 1, none⟩ = some (.int .u64 ((nth h (q + 1) : Nat) : Int)) ∧ w5.frozen? ⟨g, q + 1, none⟩ = false := by
            obtain ⟨b', off', hb', hlt', hc'⟩ := ho5.rd (by omega)
            injection hb' with hb'
            injection hb' with e1 e2
            subst e1 e2
            have h1 := hc' (q + 1) hfit 0 _ rfl
            refine ⟨by simpa using h1, ?_⟩
            rcases ho5.2 with ⟨hv, h0⟩ | ⟨g', cap', cur', hv, hb, hg', _⟩
            · cases hv
            · injection hv with h1 _ _
              injection h1 with h1
              injection h1 with h1 _
              subst h1
              exact Go.frozen_of_row w5 g (q + 1) cur' _ hg'
          have HO5 := Lib.hid ho5
          have HI5 := Lib.hid hi5
          have HB5 := Lib.hid hb5
          have HNE5 := Lib.hid hne5
          have hz5 := hb5.size
          have hg4 := (ho5.blk g rfl).1
          have hz4 := HB34.out.size
          have hz3 := HZ3.out
          have HB35 := Lib.hid (HB34.out.trans (hb5.mono HB34.out.size))
          have HB05 := Lib.hid (HB03.out.trans (HB35.out.mono HB03.out.size))
          have hn5 : g ≠ w5.heap.size := by omega
          have m2 : (0 : Int) ≤ (q : Int) + 1 := by omega
          have m3 : (q : Int) + 1 < (h.length : Int) := by omega
          have m4 : ((q : Int) + 1).toNat = q + 1 := by omega
          have m5 : (q : Int) + 1 ≤ 4000 := by omega
          clear ho5 hi5 hb5 hne5 a0 a1 a2 a3
          go_wp2_with fail
          refine (target_any x _ hx).mono ?_
          rintro e w8 ⟨⟨n, rfl, hn⟩, hw⟩
          have HN := Lib.hid hn
          have hst := OwnU.store (i := q + 1) (x := x) HO5.out
          have HG58 := Lib.hid (show w5.grownBy w8 (some g) from by rw [← hw]; exact grown_step hst.2 (World.grownBy_alloc _ _ (some g)) (.inl rfl))
          have HO8 := Lib.hid (show OwnU w8 w.heap.size (.slice (some ⟨g, 0, none⟩) h.length c5) (h.set (q + 1) x) from by rw [← hw]; exact (hst.1.alloc _).mono (by omega))
          have HI8 := Lib.hid (show OwnI w8 w.heap.size (.slice B5 late.length d5) late from (HI5.out.grown HG58.out (fun k hk e => by injection e with e; exact HNE5.out g rfl (by rw [hk, e]))).mono (by omega))
          have HBX8 := Lib.hid (show AgB w8 w5.heap.size (some ⟨g, 0, none⟩) h.length c5 old B5 late.length d5 ∧ ∀ o, w8.frozen? ⟨w5.heap.size, o, none⟩ = false from by
            rw [← hw]
            have h1 := AgB.new (w5.setCell ⟨g, q + 1, none⟩ (.int .u64 (x : Int))) (some ⟨g, 0, none⟩) h.length c5 old B5 late.length d5 26
            have h2 : (w5.setCell ⟨g, q + 1, none⟩ (.int .u64 (x : Int))).heap.size = w5.heap.size := by simp
            rw [h2] at h1
            exact ⟨h1, fun o => by simp [go_sem]⟩)
          have hz8 : w8.heap.size = w5.heap.size + 1 := by rw [← hw]; simp
          have HAG8 := Lib.hid (show w8.cell? ⟨w.heap.size, 1, none⟩ = some (.int .i64 old) from (grown_cell HG58.out (by omega) (fun e => by injection e with e; omega)).trans ((HB35.out.cell (p := ⟨w.heap.size, 1, none⟩) (by show w.heap.size < w3.heap.size; omega)).trans HAG3.out.a1))
          have HR8 := Lib.hid (show AgB w8 (w.heap.size + 1) none 0 0 0 none 0 0 ∧ ∀ o, w8.frozen? ⟨w.heap.size + 1, o, none⟩ = false from by
            have h1 := HBX3.out.below HB35.out
            have hlt : w.heap.size + 1 < w5.heap.size := by omega
            have hne : some (w.heap.size + 1) ≠ some g := fun e => by injection e with e; omega
            exact ⟨⟨(grown_cell HG58.out hlt hne).trans h1.a0, (grown_cell HG58.out hlt hne).trans h1.a1, (grown_cell HG58.out hlt hne).trans h1.a2, by omega⟩, fun o => (grown_frozen HG58.out hlt hne).trans ((grown_frozen (grown_below (g := none) HB35.out) (by omega) (by simp)).trans (HFZ.out o))⟩)
          have HB08 := Lib.hid (show Below w.heap.size w w8 from below_grown HB05.out HB05.out.size HG58.out (fun k hk => by injection hk with hk; omega))
          have HG0 := Lib.hid (show ∀ k, (Value.slice (some ⟨g, 0, none⟩) h.length c5).ownBlock = some k → w.heap.size + 2 < k from fun k hk => by have := (HO5.out.blk k hk).1; omega)
          have HI0 := Lib.hid (show ∀ k, (Value.slice B5 late.length d5).ownBlock = some k → w.heap.size + 2 < k ∧ k < w5.heap.size from fun k hk => by have := HI5.out.blk k hk; omega)
          obtain ⟨q0, q1, q2, q3⟩ := HBX8.out.1
          have e0 := HBX8.out.2 0
          have e1 := HBX8.out.2 1
          have e2 := HBX8.out.2 2
          obtain ⟨b0, b1, b2, b3⟩ := HR8.out.1
          have f0 := HR8.out.2 0
          have f1 := HR8.out.2 1
          have f2 := HR8.out.2 2
          have a1 := HAG8.out
          have HPT8 := Lib.hid (fun u0 u1 u2 => put3_cells b0 b1 b2 u0 u1 u2)
          have HZ8 := Lib.hid hz8
          have HQ5 := Lib.hid (show w.heap.size + 3 ≤ w5.heap.size by omega)
          clear hn hst hw hz8 cG fG m2 m3 m4 m5
          cases htb : tgtB x with
          | false =>
            have HSL := Lib.hid (show setLate old late (q : Int) x = late from by unfold setLate; rw [if_neg (fun h => by rw [htb] at h; cases h.1)])
            go_wp2_with fail
            obtain ⟨z0, z1, z2, zg⟩ := HPT8.out (.slice (some ⟨g, 0, none⟩) h.length c5) (.int .i64 old) (.slice B5 late.length d5)
            refine bodyPost_ret (set_results (H := w.heap.size + 1) (v7 := .int .i64 0) rfl rfl z0 z1 z2) rfl (.inl ⟨l, k, o, some ⟨g, 0, none⟩, c5, B5, d5, HOK.out, HCL.out, by rw [HQ.out], HWX.out, by rw [HSL.out], ?_, ?_, ?_⟩)
            · rw [HQ.out]; exact HO8.out.grown zg (fun k hk e => by injection e with e; have h1 := HG0.out k hk; omega)
            · rw [HSL.out]; exact HI8.out.grown zg (fun k hk e => by injection e with e; have h1 := HI0.out k hk; omega)
            · exact below_grown HB08.out HB08.out.size zg (fun g hg => by injection hg with hg; omega)
          | true =>
            have hnx := HN.out htb
            have HNX := Lib.hid hnx
            have HTB := Lib.hid htb
            by_cases k1 : old ≤ n
            · have d1 : decide (old ≤ n) = true := decide_eq_true k1
              by_cases k2 : (q : Int) < old
              · have d2 : decide ((q : Int) < old) = true := decide_eq_true k2
                have HCT := Lib.hid (containsI_any B5 late.length d5 (lst late) (q : Int) w8 (by omega) HI8.out.rd)
                rw [any_lst] at HCT
                have HK12 := Lib.hid (And.intro k1 k2)
                by_cases k3 : (q : Int) ∈ late
                · have HSL := Lib.hid (show setLate old late (q : Int) x = late from by unfold setLate; rw [if_neg (fun h => h.2.2.2 k3)])
                  have d3 : decide ((q : Int) ∈ late) = true := decide_eq_true k3
                  rw [d3] at HCT
                  clear hnx htb k1 k2 k3 d3
                  go_wp2_with fail
                  refine HCT.out.mono ?_
                  rintro e w9 ⟨rfl, rfl⟩
                  go_wp2_with fail
                  obtain ⟨z0, z1, z2, zg⟩ := HPT8.out (.slice (some ⟨g, 0, none⟩) h.length c5) (.int .i64 old) (.slice B5 late.length d5)
                  refine bodyPost_ret (set_results (H := w.heap.size + 1) (v7 := .int .i64 0) rfl rfl z0 z1 z2) rfl (.inl ⟨l, k, o, some ⟨g, 0, none⟩, c5, B5, d5, HOK.out, HCL.out, by rw [HQ.out], HWX.out, by rw [HSL.out], ?_, ?_, ?_⟩)
                  · rw [HQ.out]; exact HO8.out.grown zg (fun k hk e => by injection e with e; have h1 := HG0.out k hk; omega)
                  · rw [HSL.out]; exact HI8.out.grown zg (fun k hk e => by injection e with e; have h1 := HI0.out k hk; omega)
                  · exact below_grown HB08.out HB08.out.size zg (fun g hg => by injection hg with hg; omega)
                · have d3 : decide ((q : Int) ∈ late) = false := decide_eq_false k3
                  rw [d3] at HCT
                  have HSL := Lib.hid (show setLate old late (q : Int) x = srt (late ++ [(q : Int)]) from by unfold setLate; rw [if_pos ⟨HTB.out, by rw [← HNX.out]; exact k1, k2, k3⟩])
                  clear hnx htb k1 k2 k3 d3
                  go_wp2_with fail
                  refine HCT.out.mono ?_
                  rintro e w9 ⟨rfl, rfl⟩
                  have HLF := Lib.hid (show late.length ≤ 4000 from late_few HOK.out)
                  have HNB := Lib.hid (show ∀ b, b = w.heap.size ∨ b = w.heap.size + 1 ∨ b = w5.heap.size → b < w8.heap.size ∧ some b ≠ (Value.slice B5 late.length d5).ownBlock from fun b hb => by
                    have h1 := HB08.out.size
                    have h2 := HZ8.out
                    have h3 := HQ5.out
                    refine ⟨by omega, fun e => ?_⟩
                    have h4 := HI0.out b e.symm
                    omega)
                  go_wp2_with (at_builtin; go_loud (refine wpList_append_int rfl _ _ rfl w.heap.size (.slice B5 late.length d5) late rfl HI8.out w8.heap.size rfl (q : Int) rfl (by have := HLF.out; omega) (by have := HB08.out.size; omega) ?_; intro v9 w9 hO9 hg9 hat9; obtain ⟨B9, d9, rfl, -, -, -⟩ := own_any hO9; have n5 := HNB.out w5.heap.size (.inr (.inr rfl)); have n1 := HNB.out (w.heap.size + 1) (.inr (.inl rfl)); have j0 := (grown_cell hg9 n5.1 n5.2).trans q0; have j1 := (grown_cell hg9 n5.1 n5.2).trans q1; have j2 := (grown_cell hg9 n5.1 n5.2).trans q2; have jf := (grown_frozen (o := 2) hg9 n5.1 n5.2).trans e2; have p0 := (grown_cell hg9 n1.1 n1.2).trans b0; have p1 := (grown_cell hg9 n1.1 n1.2).trans b1; have p2 := (grown_cell hg9 n1.1 n1.2).trans b2; have g0 := (grown_frozen (o := 0) hg9 n1.1 n1.2).trans f0; have g1 := (grown_frozen (o := 1) hg9 n1.1 n1.2).trans f1; have g2 := (grown_frozen (o := 2) hg9 n1.1 n1.2).trans f2; have HO9 := Lib.hid hO9; have HG9 := Lib.hid hg9; have HAT9 := Lib.hid hat9; clear hO9 hg9 hat9 n5 n1))
                  obtain ⟨ln, hln⟩ : ∃ ln, late.length + 1 = ln := ⟨_, rfl⟩
                  have hll9 : (late ++ [(q : Int)]).length = ln := by rw [List.length_append, ← hln]; rfl
                  have hsl : (setLate old late (q : Int) x).length = ln := by rw [HSL.out, srt_len, hll9]
                  have HSLN := Lib.hid hsl
                  rw [hll9] at HO9 HAT9
                  rw [hln]
                  obtain ⟨T, hT⟩ : ∃ T, late ++ [(q : Int)] = T := ⟨_, rfl⟩
                  rw [hT] at HO9 HSL hll9
                  have HLT := Lib.hid hll9
                  have HLN4 := Lib.hid (show ln ≤ 5000 by have := HLF.out; omega)
                  clear hT hll9 hln hsl
                  have HNB9 := Lib.hid (show ∀ b, b = w.heap.size ∨ b = w.heap.size + 1 ∨ b = w5.heap.size → b < w9.heap.size ∧ some b ≠ (Value.slice B9 ln d9).ownBlock from fun b hb => by
                    have h1 := HNB.out b hb
                    have h2 := HG9.out.size
                    refine ⟨by omega, fun e => ?_⟩
                    rcases HAT9.out with h3 | h3
                    · exact h1.2 (e.trans h3)
                    · rw [h3] at e
                      injection e with e
                      omega)
                  have HG10 := Lib.hid (show w9.grownBy (w9.setCell ⟨w5.heap.size, 2, none⟩ (.slice B9 ln d9)) (some w5.heap.size) from grown_set (grown_self _ _) _)
                  have n5 := HNB9.out w5.heap.size (.inr (.inr rfl))
                  have n1 := HNB9.out (w.heap.size + 1) (.inr (.inl rfl))
                  have HO10 := Lib.hid (show OwnI (w9.setCell ⟨w5.heap.size, 2, none⟩ (.slice B9 ln d9)) w.heap.size (.slice B9 ln d9) T from HO9.out.grown HG10.out (fun k hk e => n5.2 (by rw [hk, e])))
                  have y0 : (w9.setCell ⟨w5.heap.size, 2, none⟩ (.slice B9 ln d9)).cell? ⟨w5.heap.size, 0, none⟩ = some (.slice (some ⟨g, 0, none⟩) h.length c5) := by simp [go_sem, j0]
                  have y1 : (w9.setCell ⟨w5.heap.size, 2, none⟩ (.slice B9 ln d9)).cell? ⟨w5.heap.size, 1, none⟩ = some (.int .i64 old) := by simp [go_sem, j1]
                  have y2 : (w9.setCell ⟨w5.heap.size, 2, none⟩ (.slice B9 ln d9)).cell? ⟨w5.heap.size, 2, none⟩ = some (.slice B9 ln d9) := by simp [go_sem, j2]
                  have k1 : w.heap.size + 1 < w5.heap.size := by have := HQ5.out; omega
                  have hk1 : some (w.heap.size + 1) ≠ some w5.heap.size := fun e => by injection e with e; omega
                  have u0 := (grown_cell (o := 0) HG10.out n1.1 hk1).trans p0
                  have u1 := (grown_cell (o := 1) HG10.out n1.1 hk1).trans p1
                  have u2 := (grown_cell (o := 2) HG10.out n1.1 hk1).trans p2
                  have v0 := (grown_frozen (o := 0) HG10.out n1.1 hk1).trans g0
                  have v1 := (grown_frozen (o := 1) HG10.out n1.1 hk1).trans g1
                  have v2 := (grown_frozen (o := 2) HG10.out n1.1 hk1).trans g2
                  have HS10 := Lib.hid HG10.out.size
                  obtain ⟨W10, hW10⟩ : ∃ W10, W10 = w9.setCell ⟨w5.heap.size, 2, none⟩ (.slice B9 ln d9) := ⟨_, rfl⟩
                  rw [← hW10] at HG10 HO10 y0 y1 y2 u0 u1 u2 v0 v1 v2 HS10 ⊢
                  clear hW10
                  refine (sortI_own w.heap.size (.slice B9 ln d9) T W10 HO10.out (by rw [HLT.out]; have := HLN4.out; omega)).mono ?_
                  rintro e w11 ⟨rfl, hO11, hg11⟩
                  have HO11 := Lib.hid hO11
                  have HG11 := Lib.hid hg11
                  have m5 : w5.heap.size < W10.heap.size := by have := HS10.out; omega
                  have m1 : w.heap.size + 1 < W10.heap.size := by have := HS10.out; omega
                  have z0 := (grown_cell hg11 m5 n5.2).trans y0
                  have z1 := (grown_cell hg11 m5 n5.2).trans y1
                  have z2 := (grown_cell hg11 m5 n5.2).trans y2
                  have x0 := (grown_cell hg11 m1 n1.2).trans u0
                  have x1 := (grown_cell hg11 m1 n1.2).trans u1
                  have x2 := (grown_cell hg11 m1 n1.2).trans u2
                  have t0 := (grown_frozen (o := 0) hg11 m1 n1.2).trans v0
                  have t1 := (grown_frozen (o := 1) hg11 m1 n1.2).trans v1
                  have t2 := (grown_frozen (o := 2) hg11 m1 n1.2).trans v2
                  have HPT11 := Lib.hid (fun u0 u1 u2 => put3_cells x0 x1 x2 u0 u1 u2)
                  clear hO11 hg11 n5 n1 hk1 y0 y1 y2 u0 u1 u2 v0 v1 v2 j0 j1 j2 jf p0 p1 p2 g0 g1 g2 q0 q1 q2 q3 e0 e1 e2 b0 b1 b2 b3 f0 f1 f2 a1
                  go_wp2_with fail
                  obtain ⟨z0, z1, z2, zg⟩ := HPT11.out (.slice (some ⟨g, 0, none⟩) h.length c5) (.int .i64 old) (.slice B9 ln d9)
                  have h0 := HB08.out.size
                  have h8 := HG9.out.size
                  have h10 := HS10.out
                  have h11 := HG11.out.size
                  have hq5 := HQ5.out
                  have hz8 := HZ8.out
                  have hB9 : ∀ k, (Value.slice B9 ln d9).ownBlock = some k → w.heap.size + 2 < k ∧ k ≠ w5.heap.size ∧ k < w11.heap.size := fun k hk => by
                    have h1 := HO11.out.blk k hk
                    rcases HAT9.out with h3 | h3
                    · have := HI0.out k (by rw [← h3]; exact hk); omega
                    · rw [h3] at hk
                      injection hk with hk
                      omega
                  have hgB : ∀ k, (Value.slice B9 ln d9).ownBlock = some k → k ≠ g := fun k hk e => by
                    rcases HAT9.out with h3 | h3
                    · exact HNE5.out g rfl (by rw [← h3, hk, e])
                    · rw [h3] at hk
                      injection hk with hk
                      have := (HO8.out.blk g rfl).2
                      omega
                  have HO9' : OwnU w11 w.heap.size (.slice (some ⟨g, 0, none⟩) h.length c5) (h.set (q + 1) x) := by
                    have hg8 : ∀ k, (Value.slice (some ⟨g, 0, none⟩) h.length c5).ownBlock = some k → k = g := fun k hk => by injection hk with hk; exact hk.symm
                    have r1 := HO8.out.grown HG9.out (fun k hk e => HNE5.out k hk (by rw [← e]))
                    have r2 := r1.grown HG10.out (fun k hk e => by injection e with e; have := hg8 k hk; omega)
                    exact r2.grown HG11.out (fun k hk e => hgB k e (hg8 k hk))
                  refine bodyPost_ret (set_results (H := w.heap.size + 1) (v7 := .int .i64 0) rfl rfl z0 z1 z2) rfl (.inl ⟨l, k, o, some ⟨g, 0, none⟩, c5, B9, d9, HOK.out, HCL.out, by rw [HQ.out], HWX.out, by rw [HSLN.out], ?_, ?_, ?_⟩)
                  · rw [HQ.out]; exact HO9'.grown zg (fun k hk e => by injection e with e; have h1 := HG0.out k hk; omega)
                  · rw [HSLN.out, HSL.out]; exact HO11.out.grown zg (fun k hk e => by injection e with e; have h1 := hB9 k hk; omega)
                  · have r1 := below_grown HB08.out h0 HG9.out (fun k hk => by have := HI0.out k hk; omega)
                    have r2 := below_grown r1 (by omega) HG10.out (fun k hk => by injection hk with hk; omega)
                    have r3 := below_grown r2 (by omega) HG11.out (fun k hk => by have := hB9 k hk; omega)
                    exact below_grown r3 (by omega) zg (fun g hg => by injection hg with hg; omega)
              · have HSL := Lib.hid (show setLate old late (q : Int) x = late from by unfold setLate; rw [if_neg (fun h => k2 h.2.2.1)])
                have d2 : decide ((q : Int) < old) = false := decide_eq_false k2
                clear hnx htb k1 k2
                go_wp2_with fail
                obtain ⟨z0, z1, z2, zg⟩ := HPT8.out (.slice (some ⟨g, 0, none⟩) h.length c5) (.int .i64 old) (.slice B5 late.length d5)
                refine bodyPost_ret (set_results (H := w.heap.size + 1) (v7 := .int .i64 0) rfl rfl z0 z1 z2) rfl (.inl ⟨l, k, o, some ⟨g, 0, none⟩, c5, B5, d5, HOK.out, HCL.out, by rw [HQ.out], HWX.out, by rw [HSL.out], ?_, ?_, ?_⟩)
                · rw [HQ.out]; exact HO8.out.grown zg (fun k hk e => by injection e with e; have h1 := HG0.out k hk; omega)
                · rw [HSL.out]; exact HI8.out.grown zg (fun k hk e => by injection e with e; have h1 := HI0.out k hk; omega)
                · exact below_grown HB08.out HB08.out.size zg (fun g hg => by injection hg with hg; omega)
            · have HSL := Lib.hid (show setLate old late (q : Int) x = late from by unfold setLate; rw [if_neg (fun h => k1 (by rw [hnx]; exact h.2.1))])
              have d1 : decide (old ≤ n) = false := decide_eq_false k1
              clear hnx htb k1
              go_wp2_with fail
              obtain ⟨z0, z1, z2, zg⟩ := HPT8.out (.slice (some ⟨g, 0, none⟩) h.length c5) (.int .i64 old) (.slice B5 late.length d5)
              refine bodyPost_ret (set_results (H := w.heap.size + 1) (v7 := .int .i64 0) rfl rfl z0 z1 z2) rfl (.inl ⟨l, k, o, some ⟨g, 0, none⟩, c5, B5, d5, HOK.out, HCL.out, by rw [HQ.out], HWX.out, by rw [HSL.out], ?_, ?_, ?_⟩)
              · rw [HQ.out]; exact HO8.out.grown zg (fun k hk e => by injection e with e; have h1 := HG0.out k hk; omega)
              · rw [HSL.out]; exact HI8.out.grown zg (fun k hk e => by injection e with e; have h1 := HI0.out k hk; omega)
              · exact below_grown HB08.out HB08.out.size zg (fun g hg => by injection hg with hg; omega)
      · have d5 : (kd != 5) = true := by simpa using hk5
        obtain ⟨b0, b1, b2, b3⟩ := HBX3.out
        have f0 := HFZ.out 0
        have f1 := HFZ.out 1
        have f2 := HFZ.out 2
        have HPT3 := Lib.hid (fun u0 u1 u2 => put3_cells b0 b1 b2 u0 u1 u2)
        clear hk5
        go_wp2_with fail
        obtain ⟨z0, z1, z2, zg⟩ := HPT3.out (.slice none 0 0) (.int .i64 0) (.slice none 0 0)
        have hzz := Nat.lt_of_lt_of_le b3 zg.size
        refine bodyPost_ret (set_results (H := w.heap.size + 1) (v7 := .int .i64 12) rfl rfl ((keepA _ _ hzz 0).trans z0) ((keepA _ _ hzz 1).trans z1) ((keepA _ _ hzz 2).trans z2)) rfl (.inr ⟨12, by decide, rfl, (below_grown HB03.out HB03.out.size zg (fun g hg => by injection hg with hg; omega)).alloc (Nat.le_trans HB03.out.size zg.size) _⟩)
    · obtain ⟨b0, b1, b2, b3⟩ := HBX3.out
      have f0 := HFZ.out 0
      have f1 := HFZ.out 1
      have f2 := HFZ.out 2
      have HPT3 := Lib.hid (fun u0 u1 u2 => put3_cells b0 b1 b2 u0 u1 u2)
      clear hno HLOOK
      go_wp2_with fail
      obtain ⟨z0, z1, z2, zg⟩ := HPT3.out (.slice none 0 0) (.int .i64 0) (.slice none 0 0)
      have hzz := Nat.lt_of_lt_of_le b3 zg.size
      refine bodyPost_ret (set_results (H := w.heap.size + 1) (v7 := .int .i64 4) rfl rfl ((keepA _ _ hzz 0).trans z0) ((keepA _ _ hzz 1).trans z1) ((keepA _ _ hzz 2).trans z2)) rfl (.inr ⟨4, by decide, rfl, (below_grown HB03.out HB03.out.size zg (fun g hg => by injection hg with hg; omega)).alloc (Nat.le_trans HB03.out.size zg.size) _⟩)
  · have HB3 := Lib.hid hb
    have HB03 := Lib.hid (HB02.out.trans (hb.mono HB02.out.size))
    have HB13 := Lib.hid (HB12.out.trans (hb.mono HB12.out.size))
    obtain ⟨b0, b1, b2, b3⟩ := HBOX.out.1.below HB13.out
    have yf := fun o => (grown_frozen (o := o) (grown_below (g := none) HB13.out) HBOX.out.1.lt (by simp)).trans (HBOX.out.2 o)
    have f0 := yf 0
    have f1 := yf 1
    have f2 := yf 2
    have x0 : (y != 0) = true := by simpa using hy
    have HPT3 := Lib.hid (fun u0 u1 u2 => put3_cells b0 b1 b2 u0 u1 u2)
    clear hb yf a0 a1 a2 a3
    go_wp2_with fail
    obtain ⟨z0, z1, z2, zg⟩ := HPT3.out (.slice none 0 0) (.int .i64 0) (.slice none 0 0)
    refine bodyPost_ret (set_results (H := w.heap.size + 1) (v7 := .int .i64 y) rfl rfl z0 z1 z2) rfl (.inr ⟨y, hy, rfl, below_grown HB03.out HB03.out.size zg (fun g hg => by injection hg with hg; omega)⟩)
end Go.Proofs.Ytkdbnkkdohkhjaa
