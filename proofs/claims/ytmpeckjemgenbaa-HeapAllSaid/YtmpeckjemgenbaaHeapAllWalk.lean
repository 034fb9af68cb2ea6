/- The walk of the law HeapAll. -/
import Derived.Test.YtmpeckjemgenbaaHeaps
import Derived.Test.YtmpeckjemgenbaaHeapOpen
namespace Go.Proofs.Ytmpeckjemgenbaa
open Go.RowKit Go.ChangeShapes Go.WideShapes Go.Deep
set_option linter.unusedVariables false
theorem flatO_take_succ {l : List Ob} {k : Nat} {o : Ob} (h : l[k]? = some o) : flatO (l.take (k + 1)) = flatO (l.take k) ++ wordsO o := by
  obtain ⟨hk, he⟩ := List.getElem?_eq_some_iff.1 h
  rw [List.take_succ_eq_append_getElem hk, he, flatO_snoc]
theorem flatO_take_le (l : List Ob) (k : Nat) : (flatO (l.take k)).length ≤ (flatO l).length := by
  conv => rhs; rw [← List.take_append_drop k l, flatO_append]
  rw [List.length_append]; omega
set_option maxHeartbeats 4000000 in
set_option maxRecDepth 100000 in
theorem heapAll_go (A : Option Addr) (c : Nat) (h : List Nat) (w : World) (hS : Su w (.slice A h.length c) h) (h64 : All64 h) (hlen : h.length ≤ 17592186044416) :
    Calls Try.prog 3 #[.slice A h.length c] w fun e w' => e = .returned (.bool true) ∧ Below w.heap.size w w' := by
  have HS := Lib.hid hS
  have H64 := Lib.hid h64
  clear hS h64
  go_enter Try.func3, Try.ntmps3
  go_wp2_with fail
  refine (Objects_any h A c _ HS.out H64.out hlen).mono ?_
  rintro e w1 (⟨h4, l, hO, v, C, rfl, hrow, hb⟩ | ⟨hno, x, hx, rfl, hb⟩)
  · have HO := Lib.hid hO
    have HR := Lib.hid hrow
    have HB := Lib.hid hb
    have hll := len_flatO l
    have hfl : (flatO l).length ≤ 4000 := by rw [← hO.1]; exact h4
    obtain ⟨Ao, co, rfl, k1, k2, k3⟩ := own_any hrow.row
    clear hO hrow hb k3
    go_wp2_with fail
    refine (heaps_any _).mono ?_
    rintro e w2 ⟨rfl, hb2⟩
    have HR2 := Lib.hid (HR.out.below hb2)
    have HB2 := Lib.hid (HB.out.trans (hb2.mono HB.out.size))
    clear hb2
    go_wp2_with fail
    go_loopw [5, 7, 8, 9, 10, 30] (fun gv _ _ _ _ i wr => ∃ (k : Nat) (gA : Option Addr) (gc : Nat), .slice gA (flatO (l.take k)).length gc = gv ∧ i = .int .i64 (k : Int) ∧ k ≤ l.length ∧ Su wr (.slice gA (flatO (l.take k)).length gc) (flatO (l.take k)) ∧ ObRow wr w.heap.size (.slice Ao l.length co) l C ∧ Below w.heap.size w wr) (fun _ _ _ _ _ i _ => l.length - (intOf i).toNat)
    case atStart => exact ⟨0, none, 0, rfl, rfl, Nat.zero_le _, Su.nil _, HR2.out, HB2.out⟩
    case round =>
      obtain ⟨k, gA, gc, rfl, rfl, hk, hG, hrw, hB⟩ := hrel
      obtain ⟨G, hGe⟩ : ∃ G, G = flatO (l.take k) := ⟨_, rfl⟩
      rw [← hGe] at hG ⊢
      have HGE := Lib.hid hGe
      have HGS := Lib.hid hG
      have HRW := Lib.hid hrw
      have HBw := Lib.hid hB
      have hsz := hB.size
      clear hGe hG hrw hB
      by_cases hlt : k < l.length
      · have d1 : decide ((k : Int) < (l.length : Int)) = true := by simp; omega
        obtain ⟨o, ho⟩ : ∃ o, l[k]? = some o := ⟨_, List.getElem?_eq_getElem hlt⟩
        obtain ⟨pA, pc, hC, hP, _⟩ := HRW.out.each k o ho
        obtain ⟨bk, cap, hv, hbk, hlt2, _⟩ := own_form HRW.out.row (by omega)
        injection hv with hv1 _ hv3
        subst hv1 hv3
        have hcell := fun j (hj : j < 5) => own_cellC HRW.out.row HRW.out.len hlt (j := j) hj
        rw [hC, ← HGE.out] at hcell
        have c0 : wr.cell? ⟨bk, k * 5, none⟩ = some (.int .i64 (G.length : Int)) := hcell 0 (by omega)
        have c1 : wr.cell? ⟨bk, k * 5 + 1, none⟩ = some (.int .i64 o.kind) := hcell 1 (by omega)
        have c2 : wr.cell? ⟨bk, k * 5 + 2, none⟩ = some (.int .i64 o.num) := hcell 2 (by omega)
        have c3 : wr.cell? ⟨bk, k * 5 + 3, none⟩ = some (.string o.text) := hcell 3 (by omega)
        have c4 : wr.cell? ⟨bk, k * 5 + 4, none⟩ = some (.slice pA o.parts.length pc) := hcell 4 (by omega)
        have hok := HO.out.2 o (List.mem_of_getElem? ho)
        have hst := flatO_take_succ ho
        have hle := flatO_take_le l (k + 1)
        rw [hst, List.length_append, ← HGE.out] at hle
        have HST := Lib.hid hst
        have HF := Lib.hid (show FitsOb G o from ⟨hok.ok, by omega⟩)
        have HP := Lib.hid (Su.of_own hP)
        clear hC hP hcell hok hst hle ho
        go_wp2_with fail
        refine (Put_ok G gA gc o (G.length : Int) pA pc _ (HGS.out.below ((Below.refl _ _).alloc (Nat.le_refl _) _)) (HP.out.below ((Below.refl _ _).alloc (Nat.le_refl _) _)) HF.out).mono ?_
        rintro e w3 ⟨A3, d3, rfl, hO3, hb3⟩
        have HO3 := Lib.hid hO3
        have HB3 := Lib.hid (((Below.refl wr.heap.size wr).alloc (Nat.le_refl _) (.cells #[.int .i64 (G.length : Int), .int .i64 o.kind, .int .i64 o.num, .string o.text, .slice pA o.parts.length pc] 30)).trans (hb3.mono (by simp)))
        have e0 : w3.cell? ⟨wr.heap.size, 0, none⟩ = some (.int .i64 (G.length : Int)) := (hb3.cell (p := ⟨_, _, none⟩) (by simp)).trans (by simp)
        clear hO3 hb3 c0 c1 c2 c3 c4
        go_wp2_with fail
        go_roundw
        case rel =>
          refine ⟨k + 1, A3, d3, by rw [HST.out, ← HGE.out, List.length_append], by go_num, by omega, by rw [HST.out, ← HGE.out]; exact Su.of_own HO3.out, HRW.out.below HB3.out, HBw.out.trans (HB3.out.mono hsz)⟩
        case measure => simp [intOf]; omega
      · obtain rfl : k = l.length := by omega
        have d1 : decide ((l.length : Int) < (l.length : Int)) = false := by simp
        have HGh := Lib.hid (show G = h by rw [HGE.out, List.take_length]; exact HO.out.1.symm)
        go_wp2_with fail
        refine (equalH_any_l gA A gc c G h _ HGS.out (HS.out.below HBw.out)).mono ?_
        rintro e w3 ⟨rfl, q, rfl⟩
        go_wp2_with fail
        go_ret
        exact ⟨ret_bool (by simp [HGh.out]), below_drewN HBw.out _⟩
  · have HB := Lib.hid hb
    have x0 : (x != 0) = true := by simpa using hx
    clear hb hx hno
    go_wp2_with fail
    refine (heaps_any _).mono ?_
    rintro e w2 ⟨rfl, hb2⟩
    have HB2 := Lib.hid (HB.out.trans (hb2.mono HB.out.size))
    clear hb2
    go_wp2_with fail
    refine (heaps_any _).mono ?_
    rintro e w3 ⟨rfl, hb3⟩
    have HB3 := Lib.hid (HB2.out.trans (hb3.mono HB2.out.size))
    clear hb3
    go_wp2_with fail
    go_ret
    exact ⟨rfl, HB3.out⟩
set_option maxRecDepth 100000 in
theorem heapAll_walk {H : Type} {enc : TypeId × Value → H} (W : World) (base : Nat) (v0 : Value) {d0 : DataW H} {p0 : List MemPlace}
    (k0 : Value.okWide Try.prog W .any base 23 v0) (h0 : DataW.Trod enc Try.prog W 0 (fun _ => true) true 23 v0 d0 p0) (hz : ∀ k ∈ d0.weights Try.prog 23, k ≤ reachBytes) :
    Calls Try.prog 3 #[v0] W fun e W' => e = .returned (.bool true) ∧ Below W.heap.size W W' := by
  obtain ⟨A, c, h, rfl, hS, h64, hlen⟩ := open_heap k0 h0 hz
  exact heapAll_go A c h W hS h64 hlen
end Go.Proofs.Ytmpeckjemgenbaa
