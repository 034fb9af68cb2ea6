/- timer.Set. -/
import Derived.Test.YthnoahldolfffaaTimerDel
namespace Go.Proofs.Ythnoahldolfffaa
open Go.RowKit
set_option linter.unusedVariables false
theorem set1_cl : EqDu 23 := fun x id b w hb hc => by
  obtain ⟨a, i⟩ := x
  dsimp only
  go_enter Try.func23, Try.ntmps23
  go_wp2_with fail
  go_ret
  exact ⟨rfl, (Below.refl _ _).alloc (Nat.le_refl _) _⟩
theorem set1_enters : Enters Try.prog 23 := fun _ _ => by kernel_rfl
def DelOwn (base : Nat) (v : Value) (l : List Du) (w : World) (e : Ending) (w' : World) : Prop :=
  ∃ A c, e = .returned (.slice A l.length c) ∧ OwnD w' base (.slice A l.length c) l ∧ w.grownBy w' v.ownBlock ∧ (Value.slice A l.length c).ownBlock = v.ownBlock
theorem delF_own (base f : Nat) (cp : Array Value) (A : Option Addr) (c : Nat) (l : List Du) (p : Du → Bool) (w : World) (hm : l.length ≤ 1000) (he : Enters Try.prog f)
    (ho : OwnD w base (.slice A l.length c) l) (hs : ∀ g, (Value.slice A l.length c).ownBlock = some g → SaysD w g f cp p) :
    Calls Try.prog 21 #[.slice A l.length c, .func (.func f) #[] cp] w (DelOwn base (.slice A l.length c) (l.filter (fun x => !p x)) w) := by
  rcases ho.2 with ⟨hv, h0⟩ | ⟨g, cap, cur, hv, _⟩
  · injection hv with e1 _ e3
    subst e1 e3
    obtain rfl : l = [] := List.eq_nil_of_length_eq_zero h0
    have hix := ixD_any (fun W => w = W) none 0 0 0 0 f cp (fun _ => .int .i64 0) (fun _ => .int .i64 0) (fun _ => false) w (by omega) (fun h => by omega) he (fun W hW k hk => by omega) (fun W hW k hk => by omega) rfl
    have HIX := Lib.hid hix
    clear hix hs
    go_enter Try.func21, Try.ntmps21
    go_wp2_with fail
    refine HIX.out.mono ?_
    rintro e w1 ⟨rfl, rfl⟩
    go_wp2_with fail
    go_ret
    exact ⟨none, 0, rfl, ho, grown_self _ _, rfl⟩
  · injection hv with e1 _ e3
    subst e1 e3
    refine (delF_any base g c f cp l p w hm he ho (hs g rfl)).mono ?_
    rintro e w' ⟨rfl, h1, h2⟩
    exact ⟨some ⟨g, 0, none⟩, c, rfl, h1, h2, rfl⟩
def OkTl (now : Int) (l : List Du) : Prop := OkT now (nthD l) l.length
/-- the other timers -/
def others (id : Int) (l : List Du) : List Du := l.filter (fun x => !(x.id == id))
def setL (now id ticks : Int) (l : List Du) : List Du := srtD (others id l ++ [⟨now + ticks, id⟩])
def SetsT (now id ticks : Int) (l : List Du) : Prop := OkTl now l ∧ (1 ≤ ticks ∧ ticks ≤ 1099511627776) ∧ (others id l).length ≠ 100
def TimPost (now : Int) (l : List Du) (w : World) (e : Ending) (w' : World) : Prop := ∃ A c, e = .returned (.tuple #[.agg #[.int .i64 now, .slice A l.length c], .int .i64 0]) ∧ OwnD w' w.heap.size (.slice A l.length c) l ∧ Below w.heap.size w w'
def TimBad (w : World) (e : Ending) (w' : World) : Prop := ∃ x : Int, x ≠ 0 ∧ e = .returned (.tuple #[.agg #[.int .i64 0, .slice none 0 0], .int .i64 x]) ∧ Below w.heap.size w w'
def SetPost (now id ticks : Int) (l : List Du) (w : World) (e : Ending) (w' : World) : Prop := (SetsT now id ticks l ∧ TimPost now (setL now id ticks l) w e w') ∨ (¬ SetsT now id ticks l ∧ TimBad w e w')
/-- the boxes of Set -/
structure SB (wx : World) (b : Nat) (now id : Int) (v : Value) : Prop where
  c0 : wx.cell? ⟨b, 0, none⟩ = some (.int .i64 now)
  c1 : wx.cell? ⟨b, 1, none⟩ = some v
  d0 : wx.cell? ⟨b + 1, 0, none⟩ = some (.int .i64 id)
  r0 : wx.cell? ⟨b + 1 + 1, 0, none⟩ = some (.int .i64 0)
  r1 : wx.cell? ⟨b + 1 + 1, 1, none⟩ = some (.slice none 0 0)
  fr : ∀ o, wx.frozen? ⟨b + 1 + 1, o, none⟩ = false
  sz : b + 1 + 1 < wx.heap.size
theorem SB.below {wx wy : World} {b : Nat} {now id : Int} {v : Value} {B : Nat} (h : SB wx b now id v) (hb : Below B wx wy) (hB : b + 1 + 1 < B) : SB wy b now id v := by
  have k := fun c o (hc : c < B) => hb.cell (p := ⟨c, o, none⟩) hc
  exact ⟨(k b 0 (by omega)).trans h.c0, (k b 1 (by omega)).trans h.c1, (k (b + 1) 0 (by omega)).trans h.d0, (k (b + 1 + 1) 0 (by omega)).trans h.r0, (k (b + 1 + 1) 1 (by omega)).trans h.r1, fun o => (hb.frozen (p := ⟨b + 1 + 1, o, none⟩) hB).trans (h.fr o), by have := hb.size; have := h.sz; omega⟩
set_option maxHeartbeats 8000000 in
set_option maxRecDepth 100000 in
theorem set_any (now : Int) (A : Option Addr) (c : Nat) (l : List Du) (id ticks : Int) (w : World) (hS : Sd w (.slice A l.length c) l) :
    Calls Try.prog 9 #[.agg #[.int .i64 now, .slice A l.length c], .int .i64 id, .int .i64 ticks] w (SetPost now id ticks l w) := by
  have HS := Lib.hid hS
  obtain ⟨k1, k2⟩ : l.length ≤ c ∧ c ≤ 9223372036854775807 := by
    obtain ⟨_, _, e, h1, h2, _, _⟩ := HS.out
    injection e with _ _ e3
    subst e3
    exact ⟨h1, h2⟩
  clear hS
  obtain ⟨W0, hW0⟩ : ∃ W0, W0 = ((w.alloc (.cells #[.int .i64 now, .slice A l.length c] 24)).alloc (.cells #[.int .i64 id] 3)).alloc (.cells #[.int .i64 0, .slice none 0 0] 24) := ⟨_, rfl⟩
  have HSB := Lib.hid (show SB W0 w.heap.size now id (.slice A l.length c) by
    rw [hW0]
    constructor
    any_goals (first | simp [go_sem] | (intro o; simp [go_sem])))
  have HB0 := Lib.hid (show Below w.heap.size w W0 by rw [hW0]; exact (((Below.refl _ _).alloc (Nat.le_refl _) _).alloc (by simp) _).alloc (by simp; omega) _)
  have hz0 : W0.heap.size = w.heap.size + 3 := by rw [hW0]; simp
  have HZ0 := Lib.hid hz0
  clear hz0
  have HRA := Lib.hid (show Rd w 2 (duC (nthD l)) A l.length by
    obtain ⟨A', c', e, _, _, _, h⟩ := HS.out
    injection e with e1 _ _
    subst e1
    exact h)
  go_enter Try.func9, Try.ntmps9
  obtain ⟨b0, b1, b2, b3, b4, bf, bz⟩ := HSB.out
  go_wp2_with fail
  rw [← hW0]
  clear hW0
  refine (check_any now A l.length c (nthD l) _ (by omega) (by omega) (HRA.out.below HB0.out)).mono ?_
  rintro e w1 ⟨x, rfl, hx, hb1⟩
  have HX := Lib.hid (show x = 0 ↔ OkTl now l from hx)
  have HSB1 := Lib.hid (HSB.out.below hb1 (by have := HZ0.out; omega))
  have HB1 := Lib.hid (HB0.out.trans (hb1.mono HB0.out.size))
  have hz1 : w.heap.size + 3 ≤ w1.heap.size := by have := hb1.size; have := HZ0.out; omega
  clear hx hb1 b0 b1 b2 b3 b4 bf bz
  have bad : ∀ y : Int, y ≠ 0 → ¬ SetsT now id ticks l → ∀ wx, SB wx w.heap.size now id (.slice A l.length c) → Below w.heap.size w wx → SetPost now id ticks l w (.returned (.tuple #[.agg #[.int .i64 0, .slice none 0 0], .int .i64 y])) ((wx.setCell ⟨w.heap.size + 1 + 1, 0, none⟩ (.int .i64 0)).setCell ⟨w.heap.size + 1 + 1, 1, none⟩ (.slice none 0 0)) :=
    fun y hy hno wx _ hb => .inr ⟨hno, y, hy, rfl, below_set (below_set hb (by omega)) (by omega)⟩
  have BAD := Lib.hid bad
  clear bad
  obtain ⟨b0, b1, b2, b3, b4, bf, bz⟩ := HSB1.out
  have x3 : (w1.cell? ⟨w.heap.size + 1 + 1, 0, none⟩).isSome = true := by rw [b3]; rfl
  have x4 : (w1.cell? ⟨w.heap.size + 1 + 1, 1, none⟩).isSome = true := by rw [b4]; rfl
  by_cases hx0 : x = 0
  rotate_left
  · have e0 : (x != 0) = true := by simpa using hx0
    have HX0 := Lib.hid hx0
    clear hx0
    go_wp2_with fail
    refine bodyPost_ret (v := .tuple #[.agg #[.int .i64 0, .slice none 0 0], .int .i64 x]) (by simp [results, Try.results9, go_sem, x3, x4]) rfl ?_
    exact BAD.out x HX0.out (fun h => HX0.out (HX.out.2 h.1)) _ HSB1.out HB1.out
  subst hx0
  have HOK := Lib.hid (HX.out.1 rfl)
  have hl100 := HOK.out.1
  have hnow := HOK.out.2.1
  by_cases ht : 1 ≤ ticks ∧ ticks ≤ 1099511627776
  rotate_left
  · have HT := Lib.hid ht
    by_cases g1 : ticks < 1
    · have d1 : decide (ticks < 1) = true := by simpa using g1
      clear ht
      go_wp2_with fail
      refine bodyPost_ret (v := .tuple #[.agg #[.int .i64 0, .slice none 0 0], .int .i64 1]) (by simp [results, Try.results9, go_sem, x3, x4]) rfl ?_
      exact BAD.out 1 (by omega) (fun h => HT.out h.2.1) _ HSB1.out HB1.out
    · have d1 : decide (ticks < 1) = false := by simpa using g1
      have d2 : decide (1099511627776 < ticks) = true := by simp; omega
      clear ht
      go_wp2_with fail
      refine bodyPost_ret (v := .tuple #[.agg #[.int .i64 0, .slice none 0 0], .int .i64 1]) (by simp [results, Try.results9, go_sem, x3, x4]) rfl ?_
      exact BAD.out 1 (by omega) (fun h => HT.out h.2.1) _ HSB1.out HB1.out
  obtain ⟨ht1, ht2⟩ := ht
  have d1 : decide (ticks < 1) = false := by simp; omega
  have d2 : decide (1099511627776 < ticks) = false := by simp; omega
  go_wp2_with fail
  refine (cloneD_any A c l _ (HS.out.below HB1.out) (by omega)).mono ?_
  rintro e w2 ⟨A2, c2, rfl, hO2, hb2⟩
  have HO2 := Lib.hid hO2
  have HSB2 := Lib.hid (HSB1.out.below hb2 (by omega))
  have HB2 := Lib.hid (HB1.out.trans (hb2.mono HB1.out.size))
  have hz2 := hb2.size
  have hen := set1_enters
  clear hO2 hb2 b0 b1 b2 b3 b4 bf bz x3 x4
  go_wp2_with fail
  refine (show Calls Try.prog 21 #[.slice A2 l.length c2, .func (.func 23) #[] #[.pointer (some ⟨w.heap.size + 1, 0, none⟩)]] w2 (DelOwn w1.heap.size (.slice A2 l.length c2) (others id l) w2) from delF_own w1.heap.size 23 #[.pointer (some ⟨w.heap.size + 1, 0, none⟩)] A2 c2 l (fun x => x.id == id) w2 (by omega) set1_enters HO2.out (fun g hg W x hW => by
    have hgl := (HO2.out.blk g hg).1
    have hcell : W.cell? ⟨w.heap.size + 1, 0, none⟩ = some (.int .i64 id) := (grown_cell hW (by have := HSB2.out.sz; omega) (fun e => by injection e with e; omega)).trans HSB2.out.d0
    exact (set1_cl x id (w.heap.size + 1) W (by have := hW.size; have := HSB2.out.sz; omega) hcell).mono fun e W' ⟨he, hb⟩ => ⟨he, grown_below hb⟩)).mono ?_
  rintro e w3 ⟨A3, c3, rfl, hO3, hg3, hat3⟩
  obtain ⟨F, hF⟩ : ∃ F, F = others id l := ⟨_, rfl⟩
  rw [← hF] at hO3 ⊢
  have HF := Lib.hid hF
  have HO3 := Lib.hid hO3
  have hb23 : Below w1.heap.size w2 w3 := below_grown (Below.refl _ _) hz2 hg3 (fun g hg => (HO2.out.blk g hg).1)
  have HSB3 := Lib.hid (HSB2.out.below hb23 (by omega))
  have HB3 := Lib.hid (HB2.out.trans (hb23.mono HB1.out.size))
  have hfl : F.length ≤ 100 := by rw [hF]; exact Nat.le_trans (List.length_filter_le _ _) hl100
  have hz3 : w1.heap.size ≤ w3.heap.size := Nat.le_trans hz2 hb23.size
  obtain ⟨i0, hi, jz0, jz1, jz2⟩ := info_parts info_cloneDr
  obtain ⟨b0, b1, b2, b3, b4, bf, bz⟩ := HSB3.out
  have x3 : (w3.cell? ⟨w.heap.size + 1 + 1, 0, none⟩).isSome = true := by rw [b3]; rfl
  have x4 : (w3.cell? ⟨w.heap.size + 1 + 1, 1, none⟩).isSome = true := by rw [b4]; rfl
  clear hF hO3 hg3 hat3 hb23 hen
  by_cases hfull : F.length = 100
  · have e1 : ((F.length : Int) == 100) = true := by rw [hfull]; rfl
    have e2 : (F.length == 100) = true := by rw [hfull]; rfl
    have HFU := Lib.hid hfull
    clear hfull
    go_wp2_with fail
    refine bodyPost_ret (v := .tuple #[.agg #[.int .i64 0, .slice none 0 0], .int .i64 6]) (by simp [results, Try.results9, go_sem, x3, x4]) rfl ?_
    exact BAD.out 6 (by omega) (fun h => h.2.2 (by rw [← HF.out]; exact HFU.out)) _ HSB3.out HB3.out
  have e1 : ((F.length : Int) == 100) = false := by rw [beq_eq_false_iff_ne]; omega
  have e2 : (F.length == 100) = false := by rw [beq_eq_false_iff_ne]; omega
  have HFU := Lib.hid hfull
  obtain ⟨hn1, hn2⟩ := hnow
  clear hfull x3 x4
  go_wp2_with (at_builtin; go_loud (refine wpList_append_own_at _ rfl _ _ 22 rfl w1.heap.size 34 i0 _ 2 16 Try.underlying22 hi jz0 jz1 jz2 rfl (by omega) (.slice A3 F.length c3) F.length (encD F) rfl (HO3.out.alloc _) ⟨w3.heap.size, 0, none⟩ 1 1 (encDu ⟨now + ticks, id⟩) rfl rfl (cell_newL _ _ _ _ rfl) (encD_one [⟨now + ticks, id⟩]) (by unfold maxLen; omega) (by omega) (by simp; omega) ?_; intro v5 w5 hq5 hg5 _ hat5; obtain ⟨A5, d5, rfl, -, -, -⟩ := own_any hq5; have HQ5 := Lib.hid hq5; have HG5 := Lib.hid hg5; have hb5 := (below_grown ((Below.refl w1.heap.size w3).alloc hz3 (.cells #[.int .i64 (now + ticks), .int .i64 id] 34)) (by simp; omega) hg5 (fun g hg => (HO3.out.blk g hg).1)); have HSB5 := Lib.hid (HSB3.out.below hb5 (by omega)); have HB5 := Lib.hid (HB3.out.trans (hb5.mono HB1.out.size)); have hz5 := hb5.size; clear hq5 hg5 hat5 hb5 b0 b1 b2 b3 b4 bf bz))
  have hO5 : OwnD w5 w1.heap.size (.slice A5 (F.length + 1) d5) (F ++ [⟨now + ticks, id⟩]) := by
    have h := HQ5.out
    unfold OwnD
    rw [List.length_append, encD_append]
    simpa [encD, encDu] using h
  refine (sort_own w1.heap.size (.slice A5 (F.length + 1) d5) (F ++ [⟨now + ticks, id⟩]) w5 hO5 (by simp) (by simp; omega)).mono ?_
  rintro e w6 ⟨rfl, hO6, hg6⟩
  have HO5 := Lib.hid hO5
  have HO6 := Lib.hid hO6
  have hb56 : Below w1.heap.size w5 w6 := below_grown (Below.refl _ _) (by omega) hg6 (fun g hg => (HO5.out.blk g hg).1)
  have HSB6 := Lib.hid (HSB5.out.below hb56 (by omega))
  have HB6 := Lib.hid (HB5.out.trans (hb56.mono HB1.out.size))
  obtain ⟨b0, b1, b2, b3, b4, bf, bz⟩ := HSB6.out
  have x3 : (w6.cell? ⟨w.heap.size + 1 + 1, 0, none⟩).isSome = true := by rw [b3]; rfl
  have x4 : (w6.cell? ⟨w.heap.size + 1 + 1, 1, none⟩).isSome = true := by rw [b4]; rfl
  clear hO5 hO6 hg6 hb56
  go_wp2_with fail
  refine bodyPost_ret (v := .tuple #[.agg #[.int .i64 now, .slice A5 (F.length + 1) d5], .int .i64 0]) (by simp [results, Try.results9, go_sem, x3, x4]) rfl ?_
  have hlen : (setL now id ticks l).length = F.length + 1 := by
    unfold setL
    rw [srtD_len, List.length_append, ← HF.out]; rfl
  have hset : setL now id ticks l = srtD (F ++ [⟨now + ticks, id⟩]) := by unfold setL; rw [← HF.out]
  refine .inl ⟨⟨HOK.out, ⟨ht1, ht2⟩, by rw [← HF.out]; exact HFU.out⟩, A5, d5, by rw [hlen], ?_, below_set (below_set HB6.out (by omega)) (by omega)⟩
  rw [hlen, hset]
  exact own_set (own_set (OwnD.mono HO6.out (Nat.le_refl _)) (by omega)) (by omega) |> fun h => own_mono h (by omega)
end Go.Proofs.Ythnoahldolfffaa
