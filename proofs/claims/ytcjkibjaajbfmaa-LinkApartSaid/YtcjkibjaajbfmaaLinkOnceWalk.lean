/- The walk of the law LinkOnce. -/
import Derived.Test.YtcjkibjaajbfmaaLinkSame
import Derived.IntWalk
namespace Go.Proofs.Ytcjkibjaajbfmaa
open Go.RowKit Go.ChangeShapes Go.WideShapes
set_option linter.unusedVariables false
theorem RdL.none (w : World) (R : Nat → LR) (vw vl : Nat → Value) : RdL w none 0 R vw vl := ⟨fun h => by omega, fun k hk => by omega⟩
theorem updR_at (R : Nat → LR) (i : Nat) (s : Bool) (l : List Int) : updR R i s l i = if s then ⟨(R i).ref, l, (R i).ls⟩ else ⟨(R i).ref, (R i).ws, l⟩ := by unfold updR; rw [if_pos rfl]
theorem updR_ne (R : Nat → LR) {i k : Nat} (s : Bool) (l : List Int) (h : k ≠ i) : updR R i s l k = R k := by unfold updR; rw [if_neg h]
theorem okL_upd {R : Nat → LR} {n i : Nat} {s : Bool} {l : List Int} (h : OkL R n) (hi : i < n) (hl : l.length ≤ 100) (hc : s = false → ClearL l) : OkL (updR R i s l) n := by
  refine ⟨h.1, fun k hk => ?_⟩
  obtain ⟨h1, h2, h3, h4, h5⟩ := h.2 k hk
  unfold OkR
  simp only [updR_ref]
  by_cases e : k = i
  · subst e
    rw [updR_at]
    cases s
    · exact ⟨h1, h2, hl, h4, hc rfl⟩
    · exact ⟨h1, hl, h3, h4, h5⟩
  · rw [updR_ne R s l e]
    exact ⟨h1, h2, h3, h4, h5⟩
theorem clearL_snoc {l : List Int} {x : Int} (h : ClearL l) (hx : x ∉ l) : ClearL (l ++ [x]) := by
  intro q hq
  rw [List.length_append] at hq
  simp at hq
  by_cases e : q < l.length
  · have e1 : lst (l ++ [x]) q = lst l q := by unfold lst; rw [List.getD_eq_getElem?_getD, List.getD_eq_getElem?_getD, List.getElem?_append_left e]
    rw [e1, List.take_append_of_le_length (by omega)]
    exact h q e
  · obtain rfl : q = l.length := by omega
    have e1 : lst (l ++ [x]) l.length = x := by unfold lst; simp
    rw [e1, List.take_append_of_le_length (by omega), List.take_of_length_le (by omega)]
    exact hx
theorem linkR_ok {R : Nat → LR} {n i : Nat} {ref x : Int} (h : LinkOk R n ref x i) : OkIx (linkR R i x) n ref i ∧ x ∈ (linkR R i x i).ls := by
  unfold linkR
  by_cases hx : x ∈ (R i).ls
  · rw [if_pos hx]
    exact ⟨h.1, hx⟩
  · rw [if_neg hx]
    have hl := (h.1.1.2 i h.1.2.1).2.2.1
    have hc := (h.1.1.2 i h.1.2.1).2.2.2.2
    have hn := h.2.resolve_left hx
    refine ⟨⟨okL_upd h.1.1 h.1.2.1 (by simp; omega) (fun _ => clearL_snoc hc hx), h.1.2.1, by rw [updR_ref]; exact h.1.2.2⟩, ?_⟩
    rw [updR_at]
    simp
theorem watchR_ok {R : Nat → LR} {n i : Nat} {ref x : Int} (h : WatchOk R n ref i) : OkIx (updR R i true ((R i).ws ++ [x])) n ref i := by
  have hl := (h.1.1.2 i h.1.2.1).2.1
  have hn := h.2
  exact ⟨okL_upd h.1.1 h.1.2.1 (by simp; omega) (fun h => by cases h), h.1.2.1, by rw [updR_ref]; exact h.1.2.2⟩
theorem none_bad {R : Nat → LR} {ref : Int} {P : Nat → Prop} : ¬ ∃ i, OkIx R 0 ref i ∧ P i := by rintro ⟨i, h, _⟩; have := h.2.1; omega
theorem rows_form {w : World} {base : Nat} {A : Option Addr} {n c : Nat} {R : Nat → LR} {vw vl : Nat → Value} (h : OwnL w base (.slice A n c) n R vw vl) : n ≤ c ∧ c ≤ 9223372036854775807 := by
  obtain ⟨_, _, e, h1, h2, _⟩ := own_any h.row
  injection e with _ _ e3
  subst e3
  exact ⟨h1, h2⟩
set_option maxRecDepth 100000 in
set_option maxHeartbeats 4000000 in
theorem linkOnce_bad (A : Option Addr) (n c : Nat) (R : Nat → LR) (vw vl : Nat → Value) (ref x : Int) (w : World) (hn : n ≤ c) (hc : c ≤ 9223372036854775807) (hR : RdL w A n R vw vl) (hi : ¬ ∃ i, LinkOk R n ref x i) :
    Calls Try.prog 11 #[.slice A n c, .int .i64 ref, .int .i64 x] w fun e w' => e = .returned (.bool true) ∧ Below w.heap.size w w' := by
  have H := Lib.hid (link_bad A n c R vw vl ref x w hn hc hR hi)
  clear hR hi
  go_enter Try.func11, Try.ntmps11
  go_wp2_with fail
  refine H.out.mono ?_
  rintro e w1 ⟨y, hy, rfl, hb⟩
  have e0 : (y != 0) = true := by simpa using hy
  have HB1 := Lib.hid hb
  clear hb hy
  go_wp2_with fail
  refine (link_bad none 0 0 R vw vl ref x w1 (Nat.le_refl _) (by omega) (RdL.none _ _ _ _) none_bad).mono ?_
  rintro e w2 ⟨z, hz, rfl, hb⟩
  have HB2 := Lib.hid (HB1.out.trans (hb.mono HB1.out.size))
  clear hb hz
  go_wp2_with fail
  refine (links_any _).mono ?_
  rintro e w3 ⟨rfl, hb3⟩
  have HB3 := Lib.hid (HB2.out.trans (hb3.mono HB2.out.size))
  clear hb3
  go_wp2_with fail
  refine (links_any _).mono ?_
  rintro e w4 ⟨rfl, hb4⟩
  have HB4 := Lib.hid (HB3.out.trans (hb4.mono HB3.out.size))
  clear hb4
  go_wp2_with fail
  go_ret
  exact ⟨rfl, HB4.out⟩
theorem cells2 (W : World) (a b : Value) (t : TypeId) (n : Nat) (hn : W.heap.size = n) : (W.alloc (.cells #[a, b] t)).cell? ⟨n, 0, none⟩ = some a ∧ (W.alloc (.cells #[a, b] t)).cell? ⟨n, 1, none⟩ = some b := by
  rw [World.cell?_alloc_at (w := W) #[a, b] t n 0 hn.symm, World.cell?_alloc_at (w := W) #[a, b] t n 1 hn.symm]
  exact ⟨rfl, rfl⟩
/-- the last two letters -/
theorem told_two (ref : Int) (ls l : List Int) (x : Int) (r : Int) {k : Nat} (hk : k = l.length ∨ k = l.length + 1) : told ref false ⟨#[]⟩ ⟨r, (l ++ [x]) ++ [x], ls⟩ k = ltC 2 ref x 0 ⟨#[]⟩ := by
  unfold told
  have hl : ((l ++ [x]) ++ [x]).length = l.length + 2 := by simp
  rw [if_pos (by rw [hl]; omega)]
  have e : lst ((l ++ [x]) ++ [x]) k = x := by
    unfold lst
    rw [List.append_assoc, List.getD_eq_getElem?_getD, List.getElem?_append_right (by omega)]
    rcases hk with rfl | rfl <;> simp
  rw [e]
  rfl
set_option maxRecDepth 100000 in
set_option maxHeartbeats 8000000 in
theorem linkOnce_ok (A : Option Addr) (n c : Nat) (R : Nat → LR) (vw vl : Nat → Value) (ref x : Int) (i : Nat) (w : World) (hn : n ≤ c) (hc : c ≤ 9223372036854775807) (hR : RdL w A n R vw vl) (hi : LinkOk R n ref x i) :
    Calls Try.prog 11 #[.slice A n c, .int .i64 ref, .int .i64 x] w fun e w' => e = .returned (.bool true) ∧ Below w.heap.size w w' := by
  have HR := Lib.hid hR
  have HI := Lib.hid hi
  have hin := hi.1.2.1
  have hn100 := hi.1.1.1
  clear hR hi
  go_enter Try.func11, Try.ntmps11
  go_wp2_with fail
  refine (link_ok A n c R vw vl ref x i w hn hc HR.out HI.out).mono ?_
  rintro e w1 ⟨A1, c1, vw1, vl1, rfl, hO1, hb1⟩
  obtain ⟨n1, n2⟩ := rows_form hO1
  have HB1 := Lib.hid hb1
  have HO1 := Lib.hid hO1.rd
  clear hO1 hb1
  go_wp2_with fail
  refine (link_has A1 n c1 (linkR R i x) vw1 vl1 ref x i w1 n1 n2 HO1.out (linkR_ok HI.out).1 (linkR_ok HI.out).2).mono ?_
  rintro e w2 ⟨A2, c2, vw2, vl2, rfl, hO2, hb2⟩
  have HB2 := Lib.hid (HB1.out.trans (hb2.mono HB1.out.size))
  have HO12 := Lib.hid (HO1.out.below hb2)
  have HO2 := Lib.hid hO2.rd
  clear hO2 hb2
  go_wp2_with fail
  refine (links_any _).mono ?_
  rintro e w3 ⟨rfl, hb3⟩
  have HB3 := Lib.hid (HB2.out.trans (hb3.mono HB2.out.size))
  have HO13 := Lib.hid (HO12.out.below hb3)
  have HO23 := Lib.hid (HO2.out.below hb3)
  clear hb3
  go_wp2_with fail
  refine (sameL_ok A1 A2 n c1 c2 (linkR R i x) vw1 vl1 vw2 vl2 _ (by omega) HO13.out HO23.out).mono ?_
  rintro e w4 ⟨rfl, hb4⟩
  have HB4 := Lib.hid (HB3.out.trans (hb4.mono HB3.out.size))
  clear hb4
  go_wp2_with fail
  by_cases hw : WatchOk R n ref i
  rotate_left
  · have hw' : ¬ ∃ j, WatchOk R n ref j := by
      rintro ⟨j, hj⟩
      have := hj.1.uniq HI.out.1
      subst this
      exact hw hj
    refine (watch_bad A n c R vw vl x ref _ hn hc (HR.out.below HB4.out) hw').mono ?_
    rintro e w5 ⟨y, hy, rfl, hb5⟩
    have HB5 := Lib.hid (HB4.out.trans (hb5.mono HB4.out.size))
    have e0 : (y == 0) = false := by simpa using hy
    have HY := Lib.hid hy
    clear hb5 hw hw' hy
    go_wp2_with fail
    refine (watch_bad none 0 0 R vw vl x ref w5 (Nat.le_refl _) (by omega) (RdL.none _ _ _ _) none_bad).mono ?_
    rintro e w6 ⟨z, hz, rfl, hb6⟩
    have HB6 := Lib.hid (HB5.out.trans (hb6.mono HB5.out.size))
    clear hb6 hz
    go_wp2_with fail
    refine (good_two y z _ _ _ (cells2 _ _ _ _ _ rfl).1 (cells2 _ _ _ _ _ rfl).2).mono ?_
    rintro e w7 ⟨rfl, rfl⟩
    rw [e0]
    go_wp2_with fail
    go_ret
    exact ⟨rfl, HB6.out.alloc HB6.out.size _⟩
  have HW := Lib.hid hw
  clear hw
  refine (watch_ok A n c R vw vl x ref i _ hn hc (HR.out.below HB4.out) HW.out).mono ?_
  rintro e w5 ⟨A5, c5, vw5, vl5, rfl, hO5, hb5⟩
  obtain ⟨n5, n6⟩ := rows_form hO5
  have HB5 := Lib.hid (HB4.out.trans (hb5.mono HB4.out.size))
  have HO5 := Lib.hid hO5.rd
  clear hO5 hb5
  go_wp2_with fail
  by_cases hw : WatchOk (updR R i true ((R i).ws ++ [x])) n ref i
  rotate_left
  · have hw' : ¬ ∃ j, WatchOk (updR R i true ((R i).ws ++ [x])) n ref j := by
      rintro ⟨j, hj⟩
      have := hj.1.uniq (watchR_ok (x := x) HW.out)
      subst this
      exact hw hj
    refine (watch_bad A5 n c5 _ vw5 vl5 x ref _ n5 n6 HO5.out hw').mono ?_
    rintro e w6 ⟨z, hz, rfl, hb6⟩
    have HB6 := Lib.hid (HB5.out.trans (hb6.mono HB5.out.size))
    have e0 : (z == 0) = false := by simpa using hz
    clear hb6 hz hw hw'
    go_wp2_with fail
    refine (good_two 0 z _ _ _ (cells2 _ _ _ _ _ rfl).1 (cells2 _ _ _ _ _ rfl).2).mono ?_
    rintro e w7 ⟨rfl, rfl⟩
    rw [e0]
    go_wp2_with fail
    go_ret
    exact ⟨rfl, HB6.out.alloc HB6.out.size _⟩
  have HW2 := Lib.hid hw
  clear hw
  refine (watch_ok A5 n c5 _ vw5 vl5 x ref i _ n5 n6 HO5.out HW2.out).mono ?_
  rintro e w6 ⟨A6, c6, vw6, vl6, rfl, hO6, hb6⟩
  obtain ⟨n7, n8⟩ := rows_form hO6
  have HB6 := Lib.hid (HB5.out.trans (hb6.mono HB5.out.size))
  have HO6 := Lib.hid hO6.rd
  clear hO6 hb6
  go_wp2_with fail
  refine (good_two 0 0 _ _ _ (cells2 _ _ _ _ _ rfl).1 (cells2 _ _ _ _ _ rfl).2).mono ?_
  rintro e w7 ⟨rfl, rfl⟩
  have HB7 := Lib.hid (HB6.out.alloc HB6.out.size (.cells #[.int .i64 0, .int .i64 0] 28))
  go_wp2_with fail
  refine (gone_ok A n c R vw vl ref false ⟨#[]⟩ i _ hn hc (HR.out.below HB7.out) HI.out.1).mono ?_
  rintro e w8 ⟨A8, c8, vw8, vl8, L8, d8, rfl, hO8, hL8, hb8⟩
  have HB8 := Lib.hid (HB7.out.trans (hb8.mono HB7.out.size))
  have HO68 := Lib.hid ((HO6.out.below ((Below.refl _ _).alloc (Nat.le_refl _) (.cells #[.int .i64 0, .int .i64 0] 28))).below hb8)
  clear hO8 hL8 hb8
  go_wp2_with fail
  refine (gone_ok A6 n c6 _ vw6 vl6 ref false ⟨#[]⟩ i _ n7 n8 HO68.out (watchR_ok HW2.out)).mono ?_
  rintro e w9 ⟨A9, c9, vw9, vl9, L9, d9, rfl, hO9, hL9, hb9⟩
  have HB9 := Lib.hid (HB8.out.trans (hb9.mono HB8.out.size))
  have hR2 : updR (updR R i true ((R i).ws ++ [x])) i true ((updR R i true ((R i).ws ++ [x]) i).ws ++ [x]) i = ⟨(R i).ref, ((R i).ws ++ [x]) ++ [x], (R i).ls⟩ := by simp [updR_at]
  rw [hR2] at hL9 ⊢
  have hL9' : Rd w9 9 (told ref false ⟨#[]⟩ ⟨(R i).ref, ((R i).ws ++ [x]) ++ [x], (R i).ls⟩) L9 (manyTold false ⟨(R i).ref, ((R i).ws ++ [x]) ++ [x], (R i).ls⟩) := Rd.of_own (told_len _ _ _ _) hL9
  obtain ⟨M, hM⟩ : ∃ M, manyTold false ⟨(R i).ref, ((R i).ws ++ [x]) ++ [x], (R i).ls⟩ = M := ⟨_, rfl⟩
  obtain ⟨m, hm⟩ : ∃ m, manyTold false (R i) = m := ⟨_, rfl⟩
  rw [hM] at hL9' ⊢
  rw [hm]
  have hMl : M = (R i).ws.length + 2 := by rw [← hM]; simp [manyTold]
  have hml : m = (R i).ws.length := by rw [← hm]; simp [manyTold]
  obtain ⟨b, off, rfl, hb0, hcell⟩ := hL9' (by omega)
  have hw100 := (HI.out.1.1.2 i hin).2.1
  have t1 := hcell (M - 1) (by omega) 2 (.int .i64 x) (by rw [told_two ref (R i).ls (R i).ws x (R i).ref (.inr (by omega))]; rfl)
  have t2 := hcell (M - 2) (by omega) 2 (.int .i64 x) (by rw [told_two ref (R i).ls (R i).ws x (R i).ref (.inl (by omega))]; rfl)
  have e1 : ((M : Int) == (m : Int) + 2) = true := by simp; omega
  have e2 : ((M : Int) - 1).toNat = M - 1 := by omega
  have e3 : ((M : Int) - 2).toNat = M - 2 := by omega
  have f1 : (0 : Int) ≤ (M : Int) - 1 := by omega
  have f2 : (M : Int) - 1 < (M : Int) := by omega
  have f3 : (0 : Int) ≤ (M : Int) - 2 := by omega
  have f4 : (M : Int) - 2 < (M : Int) := by omega
  have f5 : (2 : Int) ≤ (M : Int) := by omega
  have f6 : (1 : Int) ≤ (M : Int) := by omega
  have f7 : (M : Int) ≤ 102 := by omega
  have f8 : (m : Int) ≤ 100 := by omega
  clear hO9 hL9 hb9 hR2 hL9' hM hm hMl hml hcell
  go_wp2_with fail
  refine (good_two 0 0 _ _ _ (cells2 _ _ _ _ _ rfl).1 (cells2 _ _ _ _ _ rfl).2).mono ?_
  rintro e w10 ⟨rfl, rfl⟩
  have t1' : (w9.alloc (.cells #[.int .i64 0, .int .i64 0] 28)).cell? ⟨b, off + (M - 1) * 9 + 2, none⟩ = some (.int .i64 x) := (World.cell?_alloc_lt _ _ ⟨b, _, none⟩ hb0).trans t1
  have t2' : (w9.alloc (.cells #[.int .i64 0, .int .i64 0] 28)).cell? ⟨b, off + (M - 2) * 9 + 2, none⟩ = some (.int .i64 x) := (World.cell?_alloc_lt _ _ ⟨b, _, none⟩ hb0).trans t2
  clear t1 t2
  go_wp2_with fail
  go_ret
  exact ⟨rfl, HB9.out.alloc HB9.out.size _⟩
set_option maxRecDepth 100000 in
theorem linkOnce_walk {H : Type} {enc : TypeId × Value → H} (W : World) (base : Nat) (v0 v1 v2 : Value) {d0 d1 d2 : DataW H} {p0 p1 p2 : List MemPlace}
    (k0 : Value.okWide Try.prog W .any base 62 v0) (k1 : Value.okWide Try.prog W .any base 3 v1) (k2 : Value.okWide Try.prog W .any base 3 v2)
    (h0 : DataW.Trod enc Try.prog W 0 (fun _ => true) true 62 v0 d0 p0) (h1 : DataW.Trod enc Try.prog W 0 (fun _ => true) true 3 v1 d1 p1)
    (h2 : DataW.Trod enc Try.prog W 0 (fun _ => true) true 3 v2 d2 p2) :
    Calls Try.prog 11 #[v0, v1, v2] W fun e W' => e = .returned (.bool true) ∧ Below W.heap.size W W' := by
  obtain ⟨A, n, c, R, vw, vl, rfl, hn, hc, hR⟩ := open_link k0 h0
  obtain ⟨ref, rfl, _, _, _⟩ := open_int Try.underlying3 k1 h1
  obtain ⟨x, rfl, _, _, _⟩ := open_int Try.underlying3 k2 h2
  by_cases hi : ∃ i, LinkOk R n ref x i
  · obtain ⟨i, hi⟩ := hi
    exact linkOnce_ok A n c R vw vl ref x i W hn hc hR hi
  · exact linkOnce_bad A n c R vw vl ref x W hn hc hR hi
end Go.Proofs.Ytcjkibjaajbfmaa
