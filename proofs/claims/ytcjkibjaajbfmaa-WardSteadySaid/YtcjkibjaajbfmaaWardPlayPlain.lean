/- Plain facts on a supervisor that handles terminations one after the other. -/
import Derived.Test.YtcjkibjaajbfmaaWardInts
import Derived.Test.YtcjkibjaajbfmaaWardStartsPlain
namespace Go.Proofs.Ytcjkibjaajbfmaa
set_option linter.unusedVariables false
/-- how many of l lie within the window that ends at z -/
def inWin (win z : Int) (l : List Int) : List Int := l.filter fun t => decide (z - t < win)
def GoodT (win most : Int) (ts : List Int) : Prop := ∀ i, i < ts.length → ((inWin win (lst ts i) (ts.take (i + 1))).length : Int) ≤ most
def TInv (win most : Int) (ts T : List Int) : Prop := GoodT win most ts ∧ (∀ t ∈ ts, 0 ≤ t ∧ t ≤ 1099511627776) ∧ (ts = [] → T = []) ∧ ∀ a z, ts = a ++ [z] → T = inWin win z ts ∧ ∀ t ∈ ts, t ≤ z
theorem TInv.start (win most : Int) : TInv win most [] [] := ⟨fun i hi => by simp at hi, by simp, fun _ => rfl, fun a z h => by simp at h⟩
theorem snoc_cases (l : List Int) : l = [] ∨ ∃ a z, l = a ++ [z] := by
  rcases List.eq_nil_or_concat l with h | ⟨a, z, h⟩
  · exact .inl h
  · exact .inr ⟨a, z, by rw [h, List.concat_eq_append]⟩
theorem lst_append_left {a b : List Int} {i : Nat} (h : i < a.length) : lst (a ++ b) i = lst a i := by simp [lst, h, List.getElem?_append_left h]
theorem lst_last (a : List Int) (z : Int) : lst (a ++ [z]) a.length = z := by simp [lst]
theorem TInv.step {win most : Int} {ts T : List Int} {now : Int} (h : TInv win most ts T) (hw : 1 ≤ win) (h0 : 0 ≤ now) (h1 : now ≤ 1099511627776) (hl : 0 < T.length → lst T (T.length - 1) ≤ now)
    (hm : ((T.filter fun t => !(decide (t ≤ now - win))).length : Int) < most) : TInv win most (ts ++ [now]) ((T.filter fun t => !(decide (t ≤ now - win))) ++ [now]) := by
  obtain ⟨hg, hb, hn, hz⟩ := h
  have key : (T.filter fun t => !(decide (t ≤ now - win))) = inWin win now ts ∧ ∀ t ∈ ts, t ≤ now := by
    rcases snoc_cases ts with e | ⟨a, z, e⟩
    · rw [hn e, e]; simp [inWin]
    · obtain ⟨hT, hle⟩ := hz a z e
      have hzl : z ≤ now := by
        have e2 : T = inWin win z a ++ [z] := by rw [hT, e]; simp [inWin]; omega
        have h3 := hl (by rw [e2]; simp)
        rw [e2] at h3
        have h4 : (inWin win z a ++ [z]).length - 1 = (inWin win z a).length := by simp
        rw [h4, lst_last] at h3
        exact h3
      refine ⟨?_, fun t ht => by have := hle t ht; omega⟩
      rw [hT]
      unfold inWin
      rw [List.filter_filter]
      apply List.filter_congr
      intro t ht
      by_cases h5 : now - t < win
      · have h6 : z - t < win := by omega
        have h7 : ¬ t ≤ now - win := by omega
        simp [h5, h6, h7]
      · have h7 : t ≤ now - win := by omega
        simp [h5, h7]
  obtain ⟨k1, k2⟩ := key
  rw [k1] at hm ⊢
  have ee : inWin win now (ts ++ [now]) = inWin win now ts ++ [now] := by simp [inWin]; omega
  refine ⟨fun i hi => ?_, fun t ht => ?_, fun he => by simp at he, fun a z e => ?_⟩
  · rw [List.length_append] at hi
    simp at hi
    by_cases hi2 : i < ts.length
    · rw [lst_append_left hi2, List.take_append_of_le_length (by omega)]
      exact hg i hi2
    · obtain rfl : i = ts.length := by omega
      rw [lst_last, List.take_of_length_le (by simp), ee, List.length_append]
      simp
      omega
  · rcases List.mem_append.1 ht with ht | ht
    · exact hb t ht
    · simp at ht; omega
  · obtain ⟨rfl, e3⟩ := List.append_inj' e rfl
    simp at e3
    subst e3
    refine ⟨ee.symm, fun t ht => ?_⟩
    rcases List.mem_append.1 ht with ht | ht
    · exact k2 t ht
    · simp at ht; omega
structure Fl where
  id : Int
  failed : Bool
  now : Int
structure Pl where
  sA : Option Addr
  sn : Nat
  sc : Nat
  A : Option Addr
  n : Nat
  c : Nat
  g : Bool
def flC (F : Nat → Fl) : Nat → List Value := fun k => [.int .i64 (F k).id, .bool (F k).failed, .int .i64 (F k).now]
def plC (P : Nat → Pl) : Nat → List Value := fun k => [.slice (P k).sA (P k).sn (P k).sc, .slice (P k).A (P k).n (P k).c, .bool (P k).g]
theorem flC_len (F : Nat → Fl) : ∀ k, (flC F k).length = 3 := fun _ => rfl
theorem plC_len (P : Nat → Pl) : ∀ k, (plC P k).length = 3 := fun _ => rfl
/-- when somebody was started anew -/
def timesOf (F : Nat → Fl) (P : Nat → Pl) : Nat → List Int
  | 0 => []
  | k + 1 => timesOf F P k ++ if 0 < (P k).n then [(F k).now] else []
def updP (P : Nat → Pl) (k : Nat) (x : Pl) : Nat → Pl := fun i => if i = k then x else P i
theorem timesOf_congr {F : Nat → Fl} {P Q : Nat → Pl} {k : Nat} (h : ∀ j, j < k → P j = Q j) : timesOf F P k = timesOf F Q k := by
  induction k with
  | zero => rfl
  | succ k ih => rw [timesOf, timesOf, ih (fun j hj => h j (by omega)), h k (by omega)]
theorem timesOf_upd (F : Nat → Fl) (P : Nat → Pl) (k : Nat) (x : Pl) : timesOf F (updP P k x) (k + 1) = timesOf F P k ++ if 0 < x.n then [(F k).now] else [] := by
  rw [timesOf, timesOf_congr (Q := P) (fun j hj => by simp [updP]; omega)]
  simp [updP]
theorem timesOf_len (F : Nat → Fl) (P : Nat → Pl) (k : Nat) : (timesOf F P k).length ≤ k := by
  induction k with
  | zero => simp [timesOf]
  | succ k ih => rw [timesOf, List.length_append]; split <;> simp <;> omega
theorem flatC_updP (P : Nat → Pl) (k : Nat) (x : Pl) : flatC (plC P) k ++ plC (fun _ => x) 0 = flatC (plC (updP P k x)) (k + 1) := by
  rw [flatC, flatC_congr (g := plC (updP P k x)) (g' := plC P) (fun j hj => by simp [plC, updP, show j ≠ k by omega])]
  simp [plC, updP]
/-- the supervisor with other children and times -/
def wdOf (X : Wd) (R : Nat → Ch) (T : List Int) : Wd := ⟨X.how, X.most, X.window, R, X.n, lst T, T.length⟩
theorem fl_lst (T : List Int) : fl (lst T) T.length = T := by
  apply List.ext_getElem?
  intro j
  by_cases hj : j < T.length
  · rw [fl_get _ hj, List.getElem?_eq_getElem hj]; simp [lst, hj]
  · rw [List.getElem?_eq_none (by rw [fl_len]; omega), List.getElem?_eq_none (by omega)]
/-- what one termination does to the times -/
theorem down_times {X : Wd} {R R' : Nat → Ch} {T T' st sp ts : List Int} {id now : Int} {failed g : Bool} {i : Nat} (hok : DownOk (wdOf X R T) id now i) (hr : DownRes (wdOf X R T) i failed now R' T' sp st g)
    (hT : TInv X.window X.most ts T) : (g = false ∧ TInv X.window X.most (ts ++ if 0 < st.length then [now] else []) T') ∨ (g = true ∧ st.length = 0 ∧ ∀ k, k < X.n → (R' k).lives = false) := by
  have hw : 1 ≤ X.window := hok.1.1.2.2.2.2.1
  rcases hr with ⟨_, _, h2, _, rfl, h4⟩ | ⟨_, _, h2, _, _, rfl, h4⟩ | ⟨_, hm, _, h2, _, h3, h4⟩
  · refine .inl ⟨h4, ?_⟩
    have e : T' = T := h2.trans (fl_lst T)
    rw [e]
    simpa using hT
  · refine .inr ⟨h4, rfl, fun k hk => ?_⟩
    rw [h2 k hk]
    unfold offR
    rw [if_pos ⟨Nat.zero_le _, hk⟩]
  · refine .inl ⟨h4, ?_⟩
    have hlen : 0 < st.length := by
      rw [h3]
      have hp := starts_perm (R := R) (frto (W := wdOf X R T) hok.2.1).1 (frto (W := wdOf X R T) hok.2.1).2 hok.2.2.2.1
      have := hp.length_eq
      rw [List.length_append] at this
      simp at this
      show 0 < (startIds R (frOf (wdOf X R T) i) (toOf (wdOf X R T) i)).length
      omega
    rw [if_pos hlen, h2]
    have ek : keptT (wdOf X R T) now = T.filter fun t => !(decide (t ≤ now - X.window)) := by
      unfold keptT
      show (fl (lst T) T.length).filter _ = _
      rw [fl_lst]
      rfl
    rw [ek] at hm ⊢
    exact hT.step hw hok.2.2.2.2.1 hok.2.2.2.2.2.1 hok.2.2.2.2.2.2 hm
end Go.Proofs.Ytcjkibjaajbfmaa
