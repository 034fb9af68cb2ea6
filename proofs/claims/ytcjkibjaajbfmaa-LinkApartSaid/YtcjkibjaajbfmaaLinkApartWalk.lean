/- The walk of the law LinkApart. -/
import Derived.Test.YtcjkibjaajbfmaaLinkAptCl
import Derived.Test.YtcjkibjaajbfmaaLinkToldWalk
namespace Go.Proofs.Ytcjkibjaajbfmaa
open Go.RowKit Go.ChangeShapes Go.WideShapes
set_option linter.unusedVariables false
theorem okL_ins {R : Nat → LR} {n p : Nat} {ref : Int} (h : OkL R n) (h1 : 1 ≤ ref) (hn : n ≠ 100) (hp : PosL R n ref p) : OkL (insF R p ⟨ref, [], []⟩) (n + 1) := by
  refine ⟨by have := h.1; omega, fun k hk => ?_⟩
  have hm := h.mono
  obtain ⟨hp0, hp1, hp2⟩ := hp
  have e0 : ∀ j, j < p → insF R p ⟨ref, [], []⟩ j = R j := fun j hj => by unfold insF; rw [if_pos hj]
  have e1 : insF R p ⟨ref, [], []⟩ p = ⟨ref, [], []⟩ := by unfold insF; rw [if_neg (by omega), if_pos rfl]
  have e2 : ∀ j, p < j → insF R p ⟨ref, [], []⟩ j = R (j - 1) := fun j hj => by unfold insF; rw [if_neg (by omega), if_neg (by omega)]
  rcases Nat.lt_trichotomy k p with hlt | rfl | hlt
  · obtain ⟨h2, h3, h4, h5, h6⟩ := h.2 k (by omega)
    unfold OkR
    rw [e0 k hlt, e0 (k - 1) (by omega)]
    exact ⟨h2, h3, h4, h5, h6⟩
  · unfold OkR
    rw [e1]
    refine ⟨h1, by simp, by simp, fun h0 => ?_, fun q hq => by simp at hq⟩
    rw [e0 (k - 1) (by omega)]
    exact hp1 (k - 1) (by omega)
  · obtain ⟨h2, h3, h4, h5, h6⟩ := h.2 (k - 1) (by omega)
    unfold OkR
    rw [e2 k hlt]
    refine ⟨h2, h3, h4, fun h0 => ?_, h6⟩
    by_cases e : k - 1 = p
    · rw [e, e1]
      exact hp2 (by omega)
    · rw [e2 (k - 1) (by omega)]
      exact h5 (by omega)
theorem kept_ins {R : Nat → LR} {n p i : Nat} {ref third : Int} (hi : OkIx R n third i) (h1 : 1 ≤ ref) (hn : n ≠ 100) (hp : PosL R n ref p) : Kept R (insF R p ⟨ref, [], []⟩) (n + 1) third i := by
  have hin := hi.2.1
  have e : insF R p ⟨ref, [], []⟩ (if i < p then i else i + 1) = R i := by
    unfold insF
    by_cases h : i < p
    · rw [if_pos h, if_pos h]
    · rw [if_neg h, if_neg (by omega), if_neg (by omega)]
      rfl
  exact ⟨if i < p then i else i + 1, ⟨okL_ins hi.1 h1 hn hp, by split <;> omega, by rw [e]; exact hi.2.2⟩, by rw [e], by rw [e]⟩
theorem kept_upd {R : Nat → LR} {n i j : Nat} {s : Bool} {l : List Int} {third : Int} (hi : OkIx R n third i) (hne : i ≠ j) (ho : OkL (updR R j s l) n) : Kept R (updR R j s l) n third i :=
  ⟨i, ⟨ho, hi.2.1, by rw [updR_ref]; exact hi.2.2⟩, by rw [updR_ne R s l hne], by rw [updR_ne R s l hne]⟩
theorem kept_del {R : Nat → LR} {n i j : Nat} {third : Int} (hi : OkIx R n third i) (hne : i ≠ j) (hj : j < n) : Kept R (delF R j) (n - 1) third i := by
  have hin := hi.2.1
  have e : delF R j (if i < j then i else i - 1) = R i := by
    unfold delF
    by_cases h : i < j
    · rw [if_pos h, if_pos h]
    · rw [if_neg h, if_neg (by omega)]
      congr 1
      omega
  exact ⟨if i < j then i else i - 1, ⟨okL_del hi.1 hj, by split <;> omega, by rw [e]; exact hi.2.2⟩, by rw [e], by rw [e]⟩
theorem ref_ne {R : Nat → LR} {n i j : Nat} {a b : Int} (hi : OkIx R n a i) (hj : OkIx R n b j) (h : a ≠ b) : i ≠ j := by
  rintro rfl
  exact h (hi.2.2.symm.trans hj.2.2)
/-- an answer: an error, or rows in which one is what it was -/
def Ans (R : Nat → LR) (third : Int) (i : Nat) (x : Int) (A : Option Addr) (n c : Nat) (w w' : World) : Prop :=
  n ≤ c ∧ c ≤ 9223372036854775807 ∧ (x = 0 → ∃ R' vw vl, RdL w' A n R' vw vl ∧ Kept R R' n third i) ∧ Below w.heap.size w w'
theorem ans_bad {R : Nat → LR} {third : Int} {i : Nat} {x : Int} {w w' : World} (hx : x ≠ 0) (hb : Below w.heap.size w w') : Ans R third i x none 0 0 w w' := ⟨Nat.le_refl _, by omega, fun h => absurd h hx, hb⟩
theorem ans_ok {R R' : Nat → LR} {third : Int} {i n c : Nat} {A : Option Addr} {vw vl : Nat → Value} {w w' : World} (ho : OwnL w' w.heap.size (.slice A n c) n R' vw vl) (hk : Kept R R' n third i) (hb : Below w.heap.size w w') : Ans R third i 0 A n c w w' := by
  obtain ⟨h1, h2⟩ := rows_form ho
  exact ⟨h1, h2, fun _ => ⟨R', vw, vl, ho.rd, hk⟩, hb⟩
section
variable (A : Option Addr) (n c : Nat) (R : Nat → LR) (vw vl : Nat → Value) (ref other third : Int) (i : Nat) (w : World) (hn : n ≤ c) (hc : c ≤ 9223372036854775807) (hR : RdL w A n R vw vl) (hi : OkIx R n third i) (hne : third ≠ ref)
include hn hc hR hi hne
omit hne in
theorem ans_add : Calls Try.prog 44 #[.slice A n c, .int .i64 ref] w fun e w' => ∃ x A' n' c', e = .returned (.tuple #[.slice A' n' c', .int .i64 x]) ∧ Ans R third i x A' n' c' w w' := by
  refine (add_any A n c R vw vl ref w hn hc hR).mono ?_
  rintro e w' (⟨_, x, hx, rfl, hb⟩ | ⟨hok, p, hp, A', c', vw', vl', rfl, ho, hb⟩)
  · exact ⟨x, none, 0, 0, rfl, ans_bad hx hb⟩
  · exact ⟨0, A', n + 1, c', rfl, ans_ok ho (kept_ins hi hok.2.1 hok.2.2.2 hp) hb⟩
theorem ans_watch : Calls Try.prog 38 #[.slice A n c, .int .i64 other, .int .i64 ref] w fun e w' => ∃ x A' n' c', e = .returned (.tuple #[.slice A' n' c', .int .i64 x]) ∧ Ans R third i x A' n' c' w w' := by
  by_cases h : ∃ j, WatchOk R n ref j
  · obtain ⟨j, hj⟩ := h
    refine (watch_ok A n c R vw vl other ref j w hn hc hR hj).mono ?_
    rintro e w' ⟨A', c', vw', vl', rfl, ho, hb⟩
    exact ⟨0, A', n, c', rfl, ans_ok ho (kept_upd hi (ref_ne hi hj.1 hne) (watchR_ok (x := other) hj).1) hb⟩
  · refine (watch_bad A n c R vw vl other ref w hn hc hR h).mono ?_
    rintro e w' ⟨x, hx, rfl, hb⟩
    exact ⟨x, none, 0, 0, rfl, ans_bad hx hb⟩
theorem ans_link : Calls Try.prog 36 #[.slice A n c, .int .i64 ref, .int .i64 other] w fun e w' => ∃ x A' n' c', e = .returned (.tuple #[.slice A' n' c', .int .i64 x]) ∧ Ans R third i x A' n' c' w w' := by
  by_cases h : ∃ j, LinkOk R n ref other j
  · obtain ⟨j, hj⟩ := h
    refine (link_ok A n c R vw vl ref other j w hn hc hR hj).mono ?_
    rintro e w' ⟨A', c', vw', vl', rfl, ho, hb⟩
    have hk : Kept R (linkR R j other) n third i := by
      have h2 := (linkR_ok hj).1.1
      unfold linkR at h2 ⊢
      split
      · exact ⟨i, hi, rfl, rfl⟩
      · rename_i hx
        rw [if_neg hx] at h2
        exact kept_upd hi (ref_ne hi hj.1 hne) h2
    exact ⟨0, A', n, c', rfl, ans_ok ho hk hb⟩
  · refine (link_bad A n c R vw vl ref other w hn hc hR h).mono ?_
    rintro e w' ⟨x, hx, rfl, hb⟩
    exact ⟨x, none, 0, 0, rfl, ans_bad hx hb⟩
theorem ans_gone (failed : Bool) (text : ByteArray) : Calls Try.prog 33 #[.slice A n c, .int .i64 ref, .bool failed, .string text] w fun e w' => ∃ x A' n' c' L m d, e = .returned (.tuple #[.slice A' n' c', .slice L m d, .int .i64 x]) ∧ Ans R third i x A' n' c' w w' := by
  by_cases h : ∃ j, OkIx R n ref j
  · obtain ⟨j, hj⟩ := h
    refine (gone_ok A n c R vw vl ref failed text j w hn hc hR hj).mono ?_
    rintro e w' ⟨A', c', vw', vl', L, d, rfl, ho, _, hb⟩
    exact ⟨0, A', n - 1, c', L, _, d, rfl, ans_ok ho (kept_del hi (ref_ne hi hj hne) hj.2.1) hb⟩
  · refine (gone_bad A n c R vw vl ref failed text w hn hc hR h).mono ?_
    rintro e w' ⟨x, hx, _, rfl, hb⟩
    exact ⟨x, none, 0, 0, none, 0, 0, rfl, ans_bad hx hb⟩
end
theorem cell_below {w w' : World} {b o : Nat} {v : Value} (hb : Below w.heap.size w w') (h : b < w.heap.size) (hc : w.cell? ⟨b, o, none⟩ = some v) : w'.cell? ⟨b, o, none⟩ = some v := (hb.cell (p := ⟨_, _, none⟩) h).trans hc
set_option maxRecDepth 100000 in
set_option maxHeartbeats 8000000 in
theorem linkApart_go (A : Option Addr) (n c : Nat) (R : Nat → LR) (vw vl : Nat → Value) (ref other third : Int) (w : World) (hn : n ≤ c) (hc : c ≤ 9223372036854775807) (hR : RdL w A n R vw vl) :
    Calls Try.prog 12 #[.slice A n c, .int .i64 ref, .int .i64 other, .int .i64 third] w fun e w' => e = .returned (.bool true) ∧ Below w.heap.size w w' := by
  have HR := Lib.hid hR
  clear hR
  go_enter Try.func12, Try.ntmps12
  go_wp2_with fail
  refine (ix_row _ cl1_enters cl1_cl A n c R vw vl third (w.heap.size + 1) _ (by omega) (HR.out.below (((Below.refl _ _).alloc (Nat.le_refl _) _).alloc (by simp) _)) (by simp) (by simp [go_sem])).mono ?_
  rintro e w1 ⟨rfl, hb1⟩
  have hB1 : Below w.heap.size w w1 := (((Below.refl w.heap.size w).alloc (Nat.le_refl _) (.cells #[.slice A n c] 62)).alloc (by simp) (.cells #[.int .i64 third] 3)).trans (hb1.mono (by simp; omega))
  have hs1 : w.heap.size + 2 ≤ w1.heap.size := by have := hb1.size; simp at this; omega
  have c4 : w1.cell? ⟨w.heap.size, 0, none⟩ = some (.slice A n c) := (hb1.cell (p := ⟨_, _, none⟩) (by simp; omega)).trans (by simp [go_sem])
  have c7 : w1.cell? ⟨w.heap.size + 1, 0, none⟩ = some (.int .i64 third) := (hb1.cell (p := ⟨_, _, none⟩) (by simp)).trans (by simp [go_sem])
  have HB1 := Lib.hid hB1
  clear hb1 hB1
  obtain ⟨ix, hix⟩ : ∃ ix, ixOf (refB R third) n = ix := ⟨_, rfl⟩
  rw [hix]
  have HIX := Lib.hid hix
  clear hix
  obtain ⟨W2, hW2⟩ : ∃ W2, W2 = w1.alloc (.cells #[.int .i64 ix] 3) := ⟨_, rfl⟩
  have hs2 : W2.heap.size = w1.heap.size + 1 := by rw [hW2]; simp
  have d9 : W2.cell? ⟨w1.heap.size, 0, none⟩ = some (.int .i64 ix) := by rw [hW2]; simp
  have hb2 : Below w1.heap.size w1 W2 := by rw [hW2]; exact (Below.refl _ _).alloc (Nat.le_refl _) _
  have d4 := cell_below hb2 (by omega) c4
  have d7 := cell_below hb2 (by omega) c7
  have HB2 := Lib.hid (HB1.out.trans (hb2.mono HB1.out.size))
  go_wp2_with fail
  rw [← hW2]
  clear hW2 c4 c7 hb2
  refine (links_any _).mono ?_
  rintro e w3 ⟨rfl, hb3⟩
  have e4 := cell_below hb3 (by omega) d4
  have e7 := cell_below hb3 (by omega) d7
  have e9 := cell_below hb3 (by omega) d9
  have HB3 := Lib.hid (HB2.out.trans (hb3.mono HB2.out.size))
  have hs3 := hb3.size
  clear hb3 d4 d7 d9
  go_wp2_with fail
  refine (check_any A n c R vw vl _ hn hc (HR.out.below HB3.out)).mono ?_
  rintro e w4 ⟨x, rfl, hx, hb4⟩
  have f4 := cell_below hb4 (by omega) e4
  have f7 := cell_below hb4 (by omega) e7
  have f9 := cell_below hb4 (by omega) e9
  have HB4 := Lib.hid (HB3.out.trans (hb4.mono HB3.out.size))
  have HX := Lib.hid hx
  have hs4 := hb4.size
  clear hb4 e4 e7 e9 hx
  have fin : ∀ (w5 : World) (e : Ending), (e = .returned (.bool true) ∧ Below w4.heap.size w4 w5) → (e = .returned (.bool true) ∧ Below w.heap.size w w5) := fun w5 e h => ⟨h.1, HB4.out.trans (h.2.mono HB4.out.size)⟩
  have FIN := Lib.hid fin
  clear fin
  by_cases hx0 : x = 0
  rotate_left
  · have e0 : (x != 0) = true := by simpa using hx0
    clear hx0
    go_wp2_with fail
    refine (links_any _).mono ?_
    rintro e w5 ⟨rfl, hb5⟩
    have HB5 := Lib.hid hb5
    clear hb5
    go_wp2_with fail
    go_ret
    exact FIN.out _ _ ⟨rfl, HB5.out⟩
  subst hx0
  have HK := Lib.hid (HX.out.1 rfl)
  by_cases hI : ∃ i, OkIx R n third i
  rotate_left
  · obtain rfl : ix = -1 := by rw [← HIX.out]; exact ix_none HK.out hI
    clear hI
    go_wp2_with fail
    refine (links_any _).mono ?_
    rintro e w5 ⟨rfl, hb5⟩
    have HB5 := Lib.hid hb5
    clear hb5
    go_wp2_with fail
    go_ret
    exact FIN.out _ _ ⟨rfl, HB5.out⟩
  obtain ⟨i, hi⟩ := hI
  obtain rfl : ix = i := by rw [← HIX.out]; exact hi.ix
  have HI := Lib.hid hi
  have i0 : ¬ ((i : Int) < 0) := by omega
  clear hi
  by_cases h3 : third = ref
  · have e3 : (third == ref) = true := by simpa using h3
    clear h3
    go_wp2_with fail
    refine (links_any _).mono ?_
    rintro e w5 ⟨rfl, hb5⟩
    have HB5 := Lib.hid hb5
    clear hb5
    go_wp2_with fail
    go_ret
    exact FIN.out _ _ ⟨rfl, HB5.out⟩
  have e3 : (third == ref) = false := by simpa using h3
  have H3 := Lib.hid h3
  have HP4 := Lib.hid (show SamePre w4 (w.heap.size + 1) w.heap.size w1.heap.size third A n c R vw vl i from ⟨f7, f4, f9, by omega, by omega, by omega, HR.out.below HB4.out, HI.out⟩)
  clear h3
  go_wp2_with fail
  clear i0
  refine (ans_add A n c R vw vl ref third i _ hn hc HP4.out.rd HI.out).mono ?_
  rintro e w5 ⟨xa, Aa, na, ca, rfl, a1, a2, a3, hb5⟩
  have HA := Lib.hid a3
  have HP5 := Lib.hid (HP4.out.below hb5)
  have HB5 := Lib.hid hb5
  have g4 := HP5.out.c4
  clear hb5 a3 f4 f7 f9 e3
  go_wp2_with fail
  refine (ans_watch A n c R vw vl ref other third i _ hn hc HP5.out.rd HI.out H3.out).mono ?_
  rintro e w6 ⟨xb, Ab, nb, cb, rfl, b1, b2, b3, hb6⟩
  have HBB := Lib.hid b3
  have HP6 := Lib.hid (HP5.out.below hb6)
  have HB6 := Lib.hid (HB5.out.trans (hb6.mono HB5.out.size))
  have HB56 := Lib.hid hb6
  have g4 := HP6.out.c4
  clear hb6 b3
  go_wp2_with fail
  refine (ans_link A n c R vw vl ref other third i _ hn hc HP6.out.rd HI.out H3.out).mono ?_
  rintro e w7 ⟨xc, Ac, nc, cc, rfl, c1, c2, c3, hb7⟩
  have HC := Lib.hid c3
  have HP7 := Lib.hid (HP6.out.below hb7)
  have HB7 := Lib.hid (HB6.out.trans (hb7.mono HB6.out.size))
  have HB67 := Lib.hid hb7
  have g4 := HP7.out.c4
  clear hb7 c3
  go_wp2_with fail
  refine (ans_gone A n c R vw vl ref third i _ hn hc HP7.out.rd HI.out H3.out true _).mono ?_
  rintro e w8 ⟨xd, Ad, nd, cd, L, m, d, rfl, d1, d2, d3, hb8⟩
  have HD := Lib.hid d3
  have HP8 := Lib.hid (HP7.out.below hb8)
  have HB8 := Lib.hid (HB7.out.trans (hb8.mono HB7.out.size))
  have HB78 := Lib.hid hb8
  have HB58 := Lib.hid ((HB56.out.trans (HB67.out.mono HB56.out.size)).trans (hb8.mono (HB56.out.trans (HB67.out.mono HB56.out.size)).size))
  have HB68 := Lib.hid (HB67.out.trans (hb8.mono HB67.out.size))
  clear hb8 d3 g4
  -- what each answer comes to, wherever it is asked
  have SA := Lib.hid (show xa = 0 → ∀ W, Below w8.heap.size w8 W → Calls Try.prog 42 #[.slice Aa na ca, .pointer (some ⟨w.heap.size + 1, 0, none⟩), .pointer (some ⟨w.heap.size, 0, none⟩), .pointer (some ⟨w1.heap.size, 0, none⟩)] W fun e w' => e = .returned (.bool true) ∧ Below W.heap.size W w' from fun h W hW => by
    obtain ⟨R', vw', vl', hr, hk⟩ := HA.out h
    exact same_any _ _ _ third A n c R vw vl i Aa na ca R' vw' vl' W (HP8.out.below hW) a1 a2 ((hr.below HB58.out).below hW) hk)
  have SB := Lib.hid (show xb = 0 → ∀ W, Below w8.heap.size w8 W → Calls Try.prog 42 #[.slice Ab nb cb, .pointer (some ⟨w.heap.size + 1, 0, none⟩), .pointer (some ⟨w.heap.size, 0, none⟩), .pointer (some ⟨w1.heap.size, 0, none⟩)] W fun e w' => e = .returned (.bool true) ∧ Below W.heap.size W w' from fun h W hW => by
    obtain ⟨R', vw', vl', hr, hk⟩ := HBB.out h
    exact same_any _ _ _ third A n c R vw vl i Ab nb cb R' vw' vl' W (HP8.out.below hW) b1 b2 ((hr.below HB68.out).below hW) hk)
  have SC := Lib.hid (show xc = 0 → ∀ W, Below w8.heap.size w8 W → Calls Try.prog 42 #[.slice Ac nc cc, .pointer (some ⟨w.heap.size + 1, 0, none⟩), .pointer (some ⟨w.heap.size, 0, none⟩), .pointer (some ⟨w1.heap.size, 0, none⟩)] W fun e w' => e = .returned (.bool true) ∧ Below W.heap.size W w' from fun h W hW => by
    obtain ⟨R', vw', vl', hr, hk⟩ := HC.out h
    exact same_any _ _ _ third A n c R vw vl i Ac nc cc R' vw' vl' W (HP8.out.below hW) c1 c2 ((hr.below HB78.out).below hW) hk)
  have SD := Lib.hid (show xd = 0 → ∀ W, Below w8.heap.size w8 W → Calls Try.prog 42 #[.slice Ad nd cd, .pointer (some ⟨w.heap.size + 1, 0, none⟩), .pointer (some ⟨w.heap.size, 0, none⟩), .pointer (some ⟨w1.heap.size, 0, none⟩)] W fun e w' => e = .returned (.bool true) ∧ Below W.heap.size W w' from fun h W hW => by
    obtain ⟨R', vw', vl', hr, hk⟩ := HD.out h
    exact same_any _ _ _ third A n c R vw vl i Ad nd cd R' vw' vl' W (HP8.out.below hW) d1 d2 (hr.below hW) hk)
  have FIN8 := Lib.hid (fun (w5 : World) (e : Ending) (h : e = .returned (.bool true) ∧ Below w8.heap.size w8 w5) => FIN.out w5 e ⟨h.1, HB8.out.trans (h.2.mono HB8.out.size)⟩)
  clear FIN HA HBB HC HD HP4 HP5 HP6 HP7 HP8 HB5 HB6 HB7 HB8 HB56 HB67 HB78 HB58 HB68 HIX HI H3 HK HX HB1 HB2 HB3 HB4 HR
  have K0 := Lib.hid (Below.refl w8.heap.size w8)
  by_cases ha : xa = 0
  · by_cases hb : xb = 0
    · by_cases hc : xc = 0
      · by_cases hd : xd = 0
        · obtain rfl : xa = 0 := ha
          obtain rfl : xb = 0 := hb
          obtain rfl : xc = 0 := hc
          obtain rfl : xd = 0 := hd
          go_wp2_with fail
          refine (SA.out (by trivial) _ K0.out).mono ?_
          rintro e u1 ⟨rfl, hk1⟩
          have K1 := Lib.hid (K0.out.trans (hk1.mono K0.out.size))
          clear hk1
          go_wp2_with fail
          refine (SB.out (by trivial) _ K1.out).mono ?_
          rintro e u2 ⟨rfl, hk2⟩
          have K2 := Lib.hid (K1.out.trans (hk2.mono K1.out.size))
          clear hk2
          go_wp2_with fail
          refine (SC.out (by trivial) _ K2.out).mono ?_
          rintro e u3 ⟨rfl, hk3⟩
          have K3 := Lib.hid (K2.out.trans (hk3.mono K2.out.size))
          clear hk3
          go_wp2_with fail
          refine (SD.out (by trivial) _ K3.out).mono ?_
          rintro e u4 ⟨rfl, hk4⟩
          have K4 := Lib.hid (K3.out.trans (hk4.mono K3.out.size))
          clear hk4
          go_wp2_with fail
          go_ret
          exact FIN8.out _ _ ⟨rfl, K4.out⟩
        · obtain rfl : xa = 0 := ha
          obtain rfl : xb = 0 := hb
          obtain rfl : xc = 0 := hc
          have nd : (xd != 0) = true := by simpa using hd
          clear hd
          go_wp2_with fail
          refine (SA.out (by trivial) _ K0.out).mono ?_
          rintro e u1 ⟨rfl, hk1⟩
          have K1 := Lib.hid (K0.out.trans (hk1.mono K0.out.size))
          clear hk1
          go_wp2_with fail
          refine (SB.out (by trivial) _ K1.out).mono ?_
          rintro e u2 ⟨rfl, hk2⟩
          have K2 := Lib.hid (K1.out.trans (hk2.mono K1.out.size))
          clear hk2
          go_wp2_with fail
          refine (SC.out (by trivial) _ K2.out).mono ?_
          rintro e u3 ⟨rfl, hk3⟩
          have K3 := Lib.hid (K2.out.trans (hk3.mono K2.out.size))
          clear hk3
          go_wp2_with fail
          go_ret
          exact FIN8.out _ _ ⟨rfl, K3.out⟩
      · by_cases hd : xd = 0
        · obtain rfl : xa = 0 := ha
          obtain rfl : xb = 0 := hb
          have nc : (xc != 0) = true := by simpa using hc
          clear hc
          obtain rfl : xd = 0 := hd
          go_wp2_with fail
          refine (SA.out (by trivial) _ K0.out).mono ?_
          rintro e u1 ⟨rfl, hk1⟩
          have K1 := Lib.hid (K0.out.trans (hk1.mono K0.out.size))
          clear hk1
          go_wp2_with fail
          refine (SB.out (by trivial) _ K1.out).mono ?_
          rintro e u2 ⟨rfl, hk2⟩
          have K2 := Lib.hid (K1.out.trans (hk2.mono K1.out.size))
          clear hk2
          go_wp2_with fail
          refine (SD.out (by trivial) _ K2.out).mono ?_
          rintro e u3 ⟨rfl, hk3⟩
          have K3 := Lib.hid (K2.out.trans (hk3.mono K2.out.size))
          clear hk3
          go_wp2_with fail
          go_ret
          exact FIN8.out _ _ ⟨rfl, K3.out⟩
        · obtain rfl : xa = 0 := ha
          obtain rfl : xb = 0 := hb
          have nc : (xc != 0) = true := by simpa using hc
          clear hc
          have nd : (xd != 0) = true := by simpa using hd
          clear hd
          go_wp2_with fail
          refine (SA.out (by trivial) _ K0.out).mono ?_
          rintro e u1 ⟨rfl, hk1⟩
          have K1 := Lib.hid (K0.out.trans (hk1.mono K0.out.size))
          clear hk1
          go_wp2_with fail
          refine (SB.out (by trivial) _ K1.out).mono ?_
          rintro e u2 ⟨rfl, hk2⟩
          have K2 := Lib.hid (K1.out.trans (hk2.mono K1.out.size))
          clear hk2
          go_wp2_with fail
          go_ret
          exact FIN8.out _ _ ⟨rfl, K2.out⟩
    · by_cases hc : xc = 0
      · by_cases hd : xd = 0
        · obtain rfl : xa = 0 := ha
          have nb : (xb != 0) = true := by simpa using hb
          clear hb
          obtain rfl : xc = 0 := hc
          obtain rfl : xd = 0 := hd
          go_wp2_with fail
          refine (SA.out (by trivial) _ K0.out).mono ?_
          rintro e u1 ⟨rfl, hk1⟩
          have K1 := Lib.hid (K0.out.trans (hk1.mono K0.out.size))
          clear hk1
          go_wp2_with fail
          refine (SC.out (by trivial) _ K1.out).mono ?_
          rintro e u2 ⟨rfl, hk2⟩
          have K2 := Lib.hid (K1.out.trans (hk2.mono K1.out.size))
          clear hk2
          go_wp2_with fail
          refine (SD.out (by trivial) _ K2.out).mono ?_
          rintro e u3 ⟨rfl, hk3⟩
          have K3 := Lib.hid (K2.out.trans (hk3.mono K2.out.size))
          clear hk3
          go_wp2_with fail
          go_ret
          exact FIN8.out _ _ ⟨rfl, K3.out⟩
        · obtain rfl : xa = 0 := ha
          have nb : (xb != 0) = true := by simpa using hb
          clear hb
          obtain rfl : xc = 0 := hc
          have nd : (xd != 0) = true := by simpa using hd
          clear hd
          go_wp2_with fail
          refine (SA.out (by trivial) _ K0.out).mono ?_
          rintro e u1 ⟨rfl, hk1⟩
          have K1 := Lib.hid (K0.out.trans (hk1.mono K0.out.size))
          clear hk1
          go_wp2_with fail
          refine (SC.out (by trivial) _ K1.out).mono ?_
          rintro e u2 ⟨rfl, hk2⟩
          have K2 := Lib.hid (K1.out.trans (hk2.mono K1.out.size))
          clear hk2
          go_wp2_with fail
          go_ret
          exact FIN8.out _ _ ⟨rfl, K2.out⟩
      · by_cases hd : xd = 0
        · obtain rfl : xa = 0 := ha
          have nb : (xb != 0) = true := by simpa using hb
          clear hb
          have nc : (xc != 0) = true := by simpa using hc
          clear hc
          obtain rfl : xd = 0 := hd
          go_wp2_with fail
          refine (SA.out (by trivial) _ K0.out).mono ?_
          rintro e u1 ⟨rfl, hk1⟩
          have K1 := Lib.hid (K0.out.trans (hk1.mono K0.out.size))
          clear hk1
          go_wp2_with fail
          refine (SD.out (by trivial) _ K1.out).mono ?_
          rintro e u2 ⟨rfl, hk2⟩
          have K2 := Lib.hid (K1.out.trans (hk2.mono K1.out.size))
          clear hk2
          go_wp2_with fail
          go_ret
          exact FIN8.out _ _ ⟨rfl, K2.out⟩
        · obtain rfl : xa = 0 := ha
          have nb : (xb != 0) = true := by simpa using hb
          clear hb
          have nc : (xc != 0) = true := by simpa using hc
          clear hc
          have nd : (xd != 0) = true := by simpa using hd
          clear hd
          go_wp2_with fail
          refine (SA.out (by trivial) _ K0.out).mono ?_
          rintro e u1 ⟨rfl, hk1⟩
          have K1 := Lib.hid (K0.out.trans (hk1.mono K0.out.size))
          clear hk1
          go_wp2_with fail
          go_ret
          exact FIN8.out _ _ ⟨rfl, K1.out⟩
  · by_cases hb : xb = 0
    · by_cases hc : xc = 0
      · by_cases hd : xd = 0
        · have na : (xa != 0) = true := by simpa using ha
          clear ha
          obtain rfl : xb = 0 := hb
          obtain rfl : xc = 0 := hc
          obtain rfl : xd = 0 := hd
          go_wp2_with fail
          refine (SB.out (by trivial) _ K0.out).mono ?_
          rintro e u1 ⟨rfl, hk1⟩
          have K1 := Lib.hid (K0.out.trans (hk1.mono K0.out.size))
          clear hk1
          go_wp2_with fail
          refine (SC.out (by trivial) _ K1.out).mono ?_
          rintro e u2 ⟨rfl, hk2⟩
          have K2 := Lib.hid (K1.out.trans (hk2.mono K1.out.size))
          clear hk2
          go_wp2_with fail
          refine (SD.out (by trivial) _ K2.out).mono ?_
          rintro e u3 ⟨rfl, hk3⟩
          have K3 := Lib.hid (K2.out.trans (hk3.mono K2.out.size))
          clear hk3
          go_wp2_with fail
          go_ret
          exact FIN8.out _ _ ⟨rfl, K3.out⟩
        · have na : (xa != 0) = true := by simpa using ha
          clear ha
          obtain rfl : xb = 0 := hb
          obtain rfl : xc = 0 := hc
          have nd : (xd != 0) = true := by simpa using hd
          clear hd
          go_wp2_with fail
          refine (SB.out (by trivial) _ K0.out).mono ?_
          rintro e u1 ⟨rfl, hk1⟩
          have K1 := Lib.hid (K0.out.trans (hk1.mono K0.out.size))
          clear hk1
          go_wp2_with fail
          refine (SC.out (by trivial) _ K1.out).mono ?_
          rintro e u2 ⟨rfl, hk2⟩
          have K2 := Lib.hid (K1.out.trans (hk2.mono K1.out.size))
          clear hk2
          go_wp2_with fail
          go_ret
          exact FIN8.out _ _ ⟨rfl, K2.out⟩
      · by_cases hd : xd = 0
        · have na : (xa != 0) = true := by simpa using ha
          clear ha
          obtain rfl : xb = 0 := hb
          have nc : (xc != 0) = true := by simpa using hc
          clear hc
          obtain rfl : xd = 0 := hd
          go_wp2_with fail
          refine (SB.out (by trivial) _ K0.out).mono ?_
          rintro e u1 ⟨rfl, hk1⟩
          have K1 := Lib.hid (K0.out.trans (hk1.mono K0.out.size))
          clear hk1
          go_wp2_with fail
          refine (SD.out (by trivial) _ K1.out).mono ?_
          rintro e u2 ⟨rfl, hk2⟩
          have K2 := Lib.hid (K1.out.trans (hk2.mono K1.out.size))
          clear hk2
          go_wp2_with fail
          go_ret
          exact FIN8.out _ _ ⟨rfl, K2.out⟩
        · have na : (xa != 0) = true := by simpa using ha
          clear ha
          obtain rfl : xb = 0 := hb
          have nc : (xc != 0) = true := by simpa using hc
          clear hc
          have nd : (xd != 0) = true := by simpa using hd
          clear hd
          go_wp2_with fail
          refine (SB.out (by trivial) _ K0.out).mono ?_
          rintro e u1 ⟨rfl, hk1⟩
          have K1 := Lib.hid (K0.out.trans (hk1.mono K0.out.size))
          clear hk1
          go_wp2_with fail
          go_ret
          exact FIN8.out _ _ ⟨rfl, K1.out⟩
    · by_cases hc : xc = 0
      · by_cases hd : xd = 0
        · have na : (xa != 0) = true := by simpa using ha
          clear ha
          have nb : (xb != 0) = true := by simpa using hb
          clear hb
          obtain rfl : xc = 0 := hc
          obtain rfl : xd = 0 := hd
          go_wp2_with fail
          refine (SC.out (by trivial) _ K0.out).mono ?_
          rintro e u1 ⟨rfl, hk1⟩
          have K1 := Lib.hid (K0.out.trans (hk1.mono K0.out.size))
          clear hk1
          go_wp2_with fail
          refine (SD.out (by trivial) _ K1.out).mono ?_
          rintro e u2 ⟨rfl, hk2⟩
          have K2 := Lib.hid (K1.out.trans (hk2.mono K1.out.size))
          clear hk2
          go_wp2_with fail
          go_ret
          exact FIN8.out _ _ ⟨rfl, K2.out⟩
        · have na : (xa != 0) = true := by simpa using ha
          clear ha
          have nb : (xb != 0) = true := by simpa using hb
          clear hb
          obtain rfl : xc = 0 := hc
          have nd : (xd != 0) = true := by simpa using hd
          clear hd
          go_wp2_with fail
          refine (SC.out (by trivial) _ K0.out).mono ?_
          rintro e u1 ⟨rfl, hk1⟩
          have K1 := Lib.hid (K0.out.trans (hk1.mono K0.out.size))
          clear hk1
          go_wp2_with fail
          go_ret
          exact FIN8.out _ _ ⟨rfl, K1.out⟩
      · by_cases hd : xd = 0
        · have na : (xa != 0) = true := by simpa using ha
          clear ha
          have nb : (xb != 0) = true := by simpa using hb
          clear hb
          have nc : (xc != 0) = true := by simpa using hc
          clear hc
          obtain rfl : xd = 0 := hd
          go_wp2_with fail
          refine (SD.out (by trivial) _ K0.out).mono ?_
          rintro e u1 ⟨rfl, hk1⟩
          have K1 := Lib.hid (K0.out.trans (hk1.mono K0.out.size))
          clear hk1
          go_wp2_with fail
          go_ret
          exact FIN8.out _ _ ⟨rfl, K1.out⟩
        · have na : (xa != 0) = true := by simpa using ha
          clear ha
          have nb : (xb != 0) = true := by simpa using hb
          clear hb
          have nc : (xc != 0) = true := by simpa using hc
          clear hc
          have nd : (xd != 0) = true := by simpa using hd
          clear hd
          go_wp2_with fail
          go_ret
          exact FIN8.out _ _ ⟨rfl, K0.out⟩
set_option maxRecDepth 100000 in
theorem linkApart_walk {H : Type} {enc : TypeId × Value → H} (W : World) (base : Nat) (v0 v1 v2 v3 : Value) {d0 d1 d2 d3 : DataW H} {p0 p1 p2 p3 : List MemPlace}
    (k0 : Value.okWide Try.prog W .any base 62 v0) (k1 : Value.okWide Try.prog W .any base 3 v1) (k2 : Value.okWide Try.prog W .any base 3 v2) (k3 : Value.okWide Try.prog W .any base 3 v3)
    (h0 : DataW.Trod enc Try.prog W 0 (fun _ => true) true 62 v0 d0 p0) (h1 : DataW.Trod enc Try.prog W 0 (fun _ => true) true 3 v1 d1 p1)
    (h2 : DataW.Trod enc Try.prog W 0 (fun _ => true) true 3 v2 d2 p2) (h3 : DataW.Trod enc Try.prog W 0 (fun _ => true) true 3 v3 d3 p3) :
    Calls Try.prog 12 #[v0, v1, v2, v3] W fun e W' => e = .returned (.bool true) ∧ Below W.heap.size W W' := by
  obtain ⟨A, n, c, R, vw, vl, rfl, hn, hc, hR⟩ := open_link k0 h0
  obtain ⟨ref, rfl, _, _, _⟩ := open_int Try.underlying3 k1 h1
  obtain ⟨x, rfl, _, _, _⟩ := open_int Try.underlying3 k2 h2
  obtain ⟨y, rfl, _, _, _⟩ := open_int Try.underlying3 k3 h3
  exact linkApart_go A n c R vw vl ref x y W hn hc hR
end Go.Proofs.Ytcjkibjaajbfmaa
