/- Contracts for package ward: slices.Clone over children and ints, copyOf, slices.DeleteFunc over ints. -/
import Derived.Test.YtcedogmhmpcfmaaWard
import Derived.Lib.SliceRun
namespace Go.Proofs.Ytcedogmhmpcfmaa.Wa
open Go.RowKit
set_option linter.unusedVariables false
set_option maxHeartbeats 400000 in
theorem ixI_any (I : World → Prop) (A : Option Addr) (b off n c f : Nat) (cp : Array Value) (g0 : Nat → Value) (p : Nat → Bool) (w : World) (hn : n ≤ 9223372036854775807)
    (hA : 0 < n → A = some ⟨b, off, none⟩) (he : Enters Try.prog f)
    (hc : ∀ W, I W → ∀ k, k < n → W.cell? ⟨b, off + k, none⟩ = some (g0 k))
    (hf : ∀ W, I W → ∀ k, k < n → Calls Try.prog f (#[g0 k] ++ cp) W fun e W' => e = .returned (.bool (p k)) ∧ I W') (hw : I w) :
    Calls Try.prog 69 #[.slice A n c, .func (.func f) #[] cp] w fun e w' => e = .returned (.int .i64 (ixOf p n)) ∧ I w' := by
  have HC := Lib.hid hc
  have HF := Lib.hid hf
  have HA := Lib.hid hA
  have HE := Lib.hid he
  clear hc hf hA he
  go_enter Try.func69, Try.ntmps69
  go_wp2_with fail
  go_loopw [5, 4, 8] (fun _ _ i wr => ∃ k : Nat, k ≤ n ∧ i = .int .i64 k ∧ (∀ j, j < k → p j = false) ∧ I wr) (fun _ _ i _ => n - (intOf i).toNat)
  case atStart => exact ⟨0, Nat.zero_le _, rfl, fun j hj => by omega, hw⟩
  case round =>
    obtain ⟨k, hk, rfl, hlow, hI⟩ := hrel
    have HL := Lib.hid hlow
    clear hlow
    by_cases hlt : k < n
    · obtain rfl := HA.out (by omega)
      have hc0 := HC.out wr hI k hlt
      have hen := HE.out (#[g0 k] ++ cp) wr
      go_wp2_with fail
      refine (HF.out wr hI k hlt).mono ?_
      rintro e W' ⟨rfl, hI'⟩
      by_cases hp : p k = true
      · clear hc0 hen
        go_wp2_with fail
        go_ret
        exact ⟨ret_int (ixOf_found hlt hp HL.out).symm, hI'⟩
      · have hp' : p k = false := by simpa using hp
        clear hc0 hen hp
        go_wp2_with fail
        go_roundw
        case rel =>
          refine ⟨k + 1, by omega, by go_num, fun j hj => ?_, hI'⟩
          by_cases e : j = k
          · rw [e]; exact hp'
          · exact HL.out j (by omega)
        case measure => simp [intOf]; omega
    · go_wp2_with fail
      go_ret
      exact ⟨ret_int (ixOf_none fun j hj => HL.out j (by omega)).symm, hI⟩

theorem info_cloneCh : (Try.prog.info? 43).map (fun i => (i.zero, i.size, i.bytes)) = some (some (.agg #[.int .i64 0, .int .i64 0, .bool false]), 3, 24) := by kernel_rfl
set_option maxRecDepth 100000 in
set_option maxHeartbeats 400000 in
theorem cloneCh (A : Option Addr) (n c : Nat) (g : Nat → List Value) (w : World) (hR : Rd w 3 g A n) (hl : ∀ k, (g k).length = 3) (h1 : ∀ k u, u ∈ g k → u.oneCell' = true)
    (hA : A = none → n = 0) (hn : n * 24 ≤ 140737488355328) :
    Calls Try.prog 8 #[.slice A n c] w (ClonePost 43 3 n (flatC g n) w) := by
  obtain ⟨i0, hi, hz0, hz1, hz2⟩ := info_parts info_cloneCh
  have hnil := fun (w : World) => Lib.run_eql_slice_nil (P := Try.prog) w
  cases A with
  | none =>
    obtain rfl := hA rfl
    clear hR hl h1 hA hi hz0 hz1 hz2 hn
    go_enter Try.func8, Try.ntmps8
    go_wp2_with fail
    go_ret
    exact ⟨_, rfl, World.ownsRow_nil _ _ _ _, Below.refl _ _⟩
  | some a =>
    have hn0 : ∀ (o : Obj) j u, (flatC g n)[j]? = some u → (w.alloc o).cell? (a.add j) = some u := fun o j u hu => by
      obtain ⟨q1, q2, q3⟩ := flatC_at hl (by omega) hu
      obtain ⟨b, off, hab, hb, hc⟩ := hR (by omega)
      injection hab with hab
      subst hab
      have e : (⟨b, off, none⟩ : Addr).add j = ⟨b, off + j / 3 * 3 + j % 3, none⟩ := by
        have := Nat.div_add_mod' j 3
        unfold Addr.add
        split
        · rename_i h; subst h; simp
        · simp; omega
      rw [e, World.cell?_alloc_lt _ _ _ hb]
      exact hc _ q1 _ _ q3
    have HN := Lib.hid hn0
    have H1 := Lib.hid h1
    have HL := Lib.hid (flatC_length hl n)
    clear hR hl h1 hA hn0
    go_enter Try.func8, Try.ntmps8
    go_wp2_with (at_builtin; refine wpList_append_own _ rfl _ _ 29 rfl w.heap.size 43 i0 _ 3 24 Try.underlying29 hi hz0 hz1 hz2 rfl (by omega) (.slice (some ⟨w.heap.size, 0, none⟩) 0 0) 0 [] rfl (World.ownsRow_lit w #[] 0 (Nat.le_refl _) (by simp [maxLen]) rfl) a n c (flatC g n) rfl HL.out (HN.out _) (fun u hu => by obtain ⟨k, _, hk⟩ := flatC_mem hu; exact H1.out k u hk) (by unfold maxLen; omega) (by omega) (by simp) ?_; intro v1 w1 hown hgrow _; simp only [Nat.zero_add, List.nil_append] at hown)
    go_ret
    exact ⟨v1, rfl, hown, ((Below.refl _ _).alloc (Nat.le_refl _) _).grown hgrow (by simp) (by simp [Value.ownBlock])⟩

theorem info_cloneInt : (Try.prog.info? 3).map (fun i => (i.zero, i.size, i.bytes)) = some (some (.int .i64 0), 1, 8) := by kernel_rfl
set_option maxRecDepth 100000 in
set_option maxHeartbeats 400000 in
theorem cloneInt (A : Option Addr) (n c : Nat) (g : Nat → List Value) (w : World) (hR : Rd w 1 g A n) (hl : ∀ k, (g k).length = 1) (h1 : ∀ k u, u ∈ g k → u.oneCell' = true)
    (hA : A = none → n = 0) (hn : n * 8 ≤ 140737488355328) :
    Calls Try.prog 9 #[.slice A n c] w (ClonePost 3 1 n (flatC g n) w) := by
  obtain ⟨i0, hi, hz0, hz1, hz2⟩ := info_parts info_cloneInt
  have hnil := fun (w : World) => Lib.run_eql_slice_nil (P := Try.prog) w
  cases A with
  | none =>
    obtain rfl := hA rfl
    clear hR hl h1 hA hi hz0 hz1 hz2 hn
    go_enter Try.func9, Try.ntmps9
    go_wp2_with fail
    go_ret
    exact ⟨_, rfl, World.ownsRow_nil _ _ _ _, Below.refl _ _⟩
  | some a =>
    have hn0 : ∀ (o : Obj) j u, (flatC g n)[j]? = some u → (w.alloc o).cell? (a.add j) = some u := fun o j u hu => by
      obtain ⟨q1, q2, q3⟩ := flatC_at hl (by omega) hu
      obtain ⟨b, off, hab, hb, hc⟩ := hR (by omega)
      injection hab with hab
      subst hab
      have e : (⟨b, off, none⟩ : Addr).add j = ⟨b, off + j / 1 * 1 + j % 1, none⟩ := by
        have := Nat.div_add_mod' j 1
        unfold Addr.add
        split
        · rename_i h; subst h; simp
        · simp; omega
      rw [e, World.cell?_alloc_lt _ _ _ hb]
      exact hc _ q1 _ _ q3
    have HN := Lib.hid hn0
    have H1 := Lib.hid h1
    have HL := Lib.hid (flatC_length hl n)
    clear hR hl h1 hA hn0
    go_enter Try.func9, Try.ntmps9
    go_wp2_with (at_builtin; refine wpList_append_own _ rfl _ _ 30 rfl w.heap.size 3 i0 _ 1 8 Try.underlying30 hi hz0 hz1 hz2 rfl (by omega) (.slice (some ⟨w.heap.size, 0, none⟩) 0 0) 0 [] rfl (World.ownsRow_lit w #[] 0 (Nat.le_refl _) (by simp [maxLen]) rfl) a n c (flatC g n) rfl HL.out (HN.out _) (fun u hu => by obtain ⟨k, _, hk⟩ := flatC_mem hu; exact H1.out k u hk) (by unfold maxLen; omega) (by omega) (by simp) ?_; intro v1 w1 hown hgrow _; simp only [Nat.zero_add, List.nil_append] at hown)
    go_ret
    exact ⟨v1, rfl, hown, ((Below.refl _ _).alloc (Nat.le_refl _) _).grown hgrow (by simp) (by simp [Value.ownBlock])⟩

/-- a row of the call's own that holds the numbers l -/
def encI (l : List Int) : List Value := l.map (Value.int .i64)
def OwnI (w : World) (base : Nat) (v : Value) (l : List Int) : Prop := w.ownsRow base 3 1 v l.length (encI l)
def fl (T : Nat → Int) (m : Nat) : List Int := (List.range m).map T
theorem fl_succ (T : Nat → Int) (m : Nat) : fl T (m + 1) = fl T m ++ [T m] := by simp [fl, List.range_succ]
theorem fl_len (T : Nat → Int) (m : Nat) : (fl T m).length = m := by simp [fl]
theorem fl_get (T : Nat → Int) {m j : Nat} (h : j < m) : (fl T m)[j]? = some (T j) := by simp [fl, h]
theorem flatC_fl (T : Nat → Int) (m : Nat) : flatC (tmC T) m = encI (fl T m) := by
  induction m with
  | zero => rfl
  | succ m ih => rw [flatC, ih, fl_succ]; simp [encI, tmC]
theorem encI_get {l : List Int} {j : Nat} {x : Int} (h : l[j]? = some x) : (encI l)[j]? = some (.int .i64 x) := by simp [encI, h]
/-- the state of DeleteFunc's loop: of the first q numbers those that stay lie in front -/
def DelInv (p : Int → Bool) (T : Nat → Int) (m i q : Nat) (X : List Int) : Prop := X.length = m ∧ i < q ∧ X.take i = (fl T q).filter (fun x => !p x) ∧ X.drop q = (fl T m).drop q
theorem DelInv.at_q {p : Int → Bool} {T : Nat → Int} {m i q : Nat} {X : List Int} (h : DelInv p T m i q X) (hq : q < m) : X[q]? = some (T q) := by
  have h1 : (X.drop q)[0]? = ((fl T m).drop q)[0]? := by rw [h.2.2.2]
  simpa [fl_get T hq] using h1
theorem DelInv.start {p : Int → Bool} {T : Nat → Int} {m k : Nat} (hk : k < m) (hp : p (T k) = true) (hno : ∀ j, j < k → p (T j) = false) : DelInv p T m k (k + 1) (fl T m) := by
  refine ⟨fl_len _ _, by omega, ?_, rfl⟩
  rw [fl_succ, List.filter_append]
  have h1 : (fl T k).filter (fun x => !p x) = fl T k := by
    rw [List.filter_eq_self]
    intro x hx
    simp [fl] at hx
    obtain ⟨j, hj, rfl⟩ := hx
    simp [hno j hj]
  rw [h1]
  simp [hp]
  apply List.ext_getElem?
  intro j
  rw [List.getElem?_take]
  by_cases hj : j < k
  · rw [if_pos hj, fl_get T (by omega), fl_get T hj]
  · rw [if_neg hj, List.getElem?_eq_none (by rw [fl_len]; omega)]
theorem DelInv.skip {p : Int → Bool} {T : Nat → Int} {m i q : Nat} {X : List Int} (h : DelInv p T m i q X) (hp : p (T q) = true) : DelInv p T m i (q + 1) X := by
  obtain ⟨h1, h2, h3, h4⟩ := h
  refine ⟨h1, by omega, ?_, ?_⟩
  · rw [fl_succ, List.filter_append, h3]; simp [hp]
  · rw [← List.drop_drop, h4, List.drop_drop]
theorem DelInv.keep {p : Int → Bool} {T : Nat → Int} {m i q : Nat} {X : List Int} (h : DelInv p T m i q X) (hq : q < m) (hp : p (T q) = false) : DelInv p T m (i + 1) (q + 1) (X.set i (T q)) := by
  obtain ⟨h1, h2, h3, h4⟩ := h
  refine ⟨by simpa using h1, by omega, ?_, ?_⟩
  · rw [fl_succ, List.filter_append, ← h3]
    simp [hp]
    apply List.ext_getElem?
    intro j
    have hmin : min i X.length = i := by omega
    rw [List.getElem?_take, List.getElem?_append, List.length_take, hmin]
    by_cases hj : j < i
    · have h5 : i ≠ j := by omega
      have h6 : j < i + 1 := by omega
      rw [if_pos h6, if_pos hj, List.getElem?_set_ne h5, List.getElem?_take, if_pos hj]
    · rw [if_neg hj]
      by_cases e : j = i
      · subst e
        rw [if_pos (by omega), List.getElem?_set_self (by omega)]
        simp
      · rw [if_neg (by omega), List.getElem?_eq_none]
        simp; omega
  · rw [List.drop_set_of_lt (by omega), ← List.drop_drop, h4, List.drop_drop]
theorem grown_refl (w : World) (row : Option Nat) : w.grownBy w row := ⟨rfl, rfl, rfl, Nat.le_refl _, fun _ _ _ => rfl⟩
theorem grown_trans {a b c : World} {row : Option Nat} (h1 : a.grownBy b row) (h2 : b.grownBy c row) : a.grownBy c row :=
  ⟨h2.os.trans h1.os, h2.tape.trans h1.tape, h2.output.trans h1.output, Nat.le_trans h1.size h2.size, fun k hk hne => (h2.block k (Nat.lt_of_lt_of_le hk h1.size) hne).trans (h1.block k hk hne)⟩
theorem grown_any {a b : World} {row : Option Nat} (h : a.grownBy b none) : a.grownBy b row := ⟨h.os, h.tape, h.output, h.size, fun k hk _ => h.block k hk (by simp)⟩
/-- numbers stored one behind the other into a row of the call's own -/
theorem own_setCells {base g n cap : Nat} {w : World} {X : List Int} (h : w.ownsRow base 3 1 (.slice (some ⟨g, 0, none⟩) n cap) n (encI X)) {i : Nat} (ys : List Int) (hi : i + ys.length ≤ n) :
    (w.setCells g i (encI ys)).ownsRow base 3 1 (.slice (some ⟨g, 0, none⟩) n cap) n (encI (X.take i ++ ys ++ X.drop (i + ys.length))) ∧ w.grownBy (w.setCells g i (encI ys)) (some g) := by
  have hXl : X.length = n := by have := h.1; simpa [encI] using this
  induction ys generalizing w X i with
  | nil => exact ⟨by simpa [World.setCells, encI] using h, grown_refl _ _⟩
  | cons y ys ih =>
    have h3 := h.stored i (.int .i64 y)
    have e1 : (encI X).set i (.int .i64 y) = encI (X.set i y) := by simp [encI, List.map_set]
    rw [e1] at h3
    simp at hi
    have h4 := ih (i := i + 1) h3.1 (by omega) (by simpa using hXl)
    have e2 : w.setCells g i (encI (y :: ys)) = (w.setCell ⟨g, i, none⟩ (.int .i64 y)).setCells g (i + 1) (encI ys) := rfl
    rw [e2]
    refine ⟨?_, grown_trans h3.2 h4.2⟩
    have e3 : (X.set i y).take (i + 1) ++ ys ++ (X.set i y).drop (i + 1 + ys.length) = X.take i ++ (y :: ys) ++ X.drop (i + (y :: ys).length) := by
      rw [List.drop_set_of_lt (by omega), List.take_set]
      have h5 : (X.take (i + 1)).set i y = X.take i ++ [y] := by
        apply List.ext_getElem?
        intro j
        rw [List.getElem?_set, List.getElem?_append, List.length_take, List.length_take]
        have hm1 : min (i + 1) X.length = i + 1 := by omega
        have hm2 : min i X.length = i := by omega
        rw [hm1, hm2]
        by_cases hj : j < i
        · rw [if_neg (by omega), if_pos hj, List.getElem?_take, List.getElem?_take, if_pos (by omega), if_pos hj]
        · rw [if_neg hj]
          by_cases e : j = i
          · subst e; simp
          · rw [if_neg (by omega), List.getElem?_take, if_neg (by omega), List.getElem?_eq_none]
            simp; omega
      rw [h5]
      simp
      congr 1
      omega
    rw [← e3]
    exact h4.1
/-- a shorter slice of the same row -/
theorem own_cut {base g n k cap : Nat} {w : World} {X : List Value} {l : List Int} (h : w.ownsRow base 3 1 (.slice (some ⟨g, 0, none⟩) n cap) n X) (hl : l.length = k) (hk : k ≤ n) (he : encI l = X.take k) :
    w.ownsRow base 3 1 (.slice (some ⟨g, 0, none⟩) k cap) k (encI l) := by
  refine ⟨by simp [encI, hl], .inr ?_⟩
  rcases h.2 with ⟨h', _⟩ | ⟨g', cap', cur, hv, hb, hg, hnc, hcm, hcs, ht⟩
  · cases h'
  · injection hv with e1 e2 e3
    injection e1 with e1
    injection e1 with e1
    subst e1 e3
    refine ⟨g, cap, cur, rfl, hb, hg, by omega, hcm, hcs, ?_⟩
    rw [he, ← ht, List.take_take]
    congr 1
    omega
/-- the predicate says p x wherever at most the row's block has changed, and changes nothing that lies -/
def Says (w : World) (g f : Nat) (cp : Array Value) (p : Int → Bool) : Prop := ∀ W x, w.grownBy W (some g) → Calls Try.prog f (#[.int .i64 x] ++ cp) W fun e W' => e = .returned (.bool (p x)) ∧ W.grownBy W' none
theorem info_int0 : ∀ w, (zeroValue 3).run Try.prog w = .ok (.int .i64 0) w := fun w => by kernel_rfl
def DelPost (base g cap : Nat) (l : List Int) (w : World) (e : Ending) (w' : World) : Prop :=
  e = .returned (.slice (some ⟨g, 0, none⟩) l.length cap) ∧ OwnI w' base (.slice (some ⟨g, 0, none⟩) l.length cap) l ∧ w.grownBy w' (some g)
set_option maxRecDepth 100000 in
set_option maxHeartbeats 2000000 in
theorem delF_any (base g cap m f : Nat) (cp : Array Value) (T : Nat → Int) (p : Int → Bool) (w : World) (hm : m ≤ 50) (he : Enters Try.prog f)
    (ho : w.ownsRow base 3 1 (.slice (some ⟨g, 0, none⟩) m cap) m (flatC (tmC T) m)) (hs : Says w g f cp p) :
    Calls Try.prog 48 #[.slice (some ⟨g, 0, none⟩) m cap, .func (.func f) #[] cp] w (DelPost base g cap ((fl T m).filter (fun x => !p x)) w) := by
  rw [flatC_fl] at ho
  have hix : Calls Try.prog 69 #[.slice (some ⟨g, 0, none⟩) m cap, .func (.func f) #[] cp] w fun e w' => e = .returned (.int .i64 (ixOf (fun k => p (T k)) m)) ∧ w.grownBy w' none :=
    ixI_any (fun W => w.grownBy W none) (some ⟨g, 0, none⟩) g 0 m cap f cp (fun k => .int .i64 (T k)) (fun k => p (T k)) w (by omega) (fun _ => rfl) he (fun W hW k hk => by
      have h1 := (ho.kept hW (.inr (by simp [Value.ownBlock]))).cellAt k (by omega)
      rw [Nat.zero_add, h1]
      exact encI_get (fl_get T hk)) (fun W hW k hk => (hs W (T k) (grown_any hW)).mono fun e W' ⟨h1, h2⟩ => ⟨h1, grown_trans hW h2⟩) (grown_refl _ _)
  have HIX := Lib.hid hix
  have HO := Lib.hid ho
  have HS := Lib.hid hs
  have HE := Lib.hid he
  have hcc : m ≤ cap ∧ cap ≤ 9223372036854775807 := by
    obtain ⟨A', c', hv, hnc, hcm, _⟩ := own_any ho
    injection hv with _ _ hv3
    subst hv3
    exact ⟨hnc, hcm⟩
  obtain ⟨hnc, hcm⟩ := hcc
  clear hix ho hs he
  rcases ixOf_cases (fun k => p (T k)) m with ⟨hix, hno⟩ | ⟨k, hix, hk, hp, hno⟩
  · have HN := Lib.hid hno
    have HX := Lib.hid hix
    clear hno hix
    go_enter Try.func48, Try.ntmps48
    go_wp2_with fail
    refine HIX.out.mono ?_
    rintro e w1 ⟨rfl, hg⟩
    rw [HX.out]
    go_wp2_with fail
    go_ret
    have e1 : (fl T m).filter (fun x => !p x) = fl T m := by
      rw [List.filter_eq_self]
      intro x hx
      simp [fl] at hx
      obtain ⟨j, hj, rfl⟩ := hx
      simpa using HN.out j hj
    rw [e1]
    refine ⟨by rw [fl_len]; rfl, ?_, grown_any hg⟩
    unfold OwnI
    rw [fl_len]
    exact HO.out.kept hg (.inr (by simp [Value.ownBlock]))
  · have HI := Lib.hid (DelInv.start (p := p) (T := T) hk hp hno)
    have HX := Lib.hid hix
    have hlt1 : ((k : Int) == -1) = false := beq_eq_false_iff_ne.2 (by omega)
    clear hno hix hp
    go_enter Try.func48, Try.ntmps48
    go_wp2_with fail
    refine HIX.out.mono ?_
    rintro e w1 ⟨rfl, hg⟩
    rw [HX.out]
    have HG := Lib.hid hg
    clear hg
    go_wp2_with fail
    go_loopw [5, 6, 7] (fun a b _ wr => ∃ (i q : Nat) (X : List Int), a = .int .i64 i ∧ b = .int .i64 q ∧ q ≤ m ∧ DelInv p T m i q X ∧ wr.ownsRow base 3 1 (.slice (some ⟨g, 0, none⟩) m cap) m (encI X) ∧ w.grownBy wr (some g)) (fun _ b _ _ => m - (intOf b).toNat)
    case atStart => exact ⟨k, k + 1, fl T m, rfl, by go_num, by omega, HI.out, HO.out.kept HG.out (.inr (by simp [Value.ownBlock])), grown_any HG.out⟩
    case round =>
      obtain ⟨i, q, X, rfl, rfl, hq, hI, hown, hgw⟩ := hrel
      have hiq := hI.2.1
      have hXl := hI.1
      have HI := Lib.hid hI
      have HOW := Lib.hid hown
      have HGW := Lib.hid hgw
      by_cases hlt : q < m
      · have cq : wr.cell? ⟨g, q, none⟩ = some (.int .i64 (T q)) := (hown.cellAt q (by omega)).trans (encI_get (hI.at_q hlt))
        obtain ⟨y, hy⟩ : ∃ y, X[i]? = some y := ⟨_, List.getElem?_eq_getElem (by omega)⟩
        have ci : wr.cell? ⟨g, i, none⟩ = some (.int .i64 y) := (hown.cellAt i (by omega)).trans (encI_get hy)
        have hen := HE.out (#[.int .i64 (T q)] ++ cp) wr
        clear hy hI hown hgw
        have hcall := Lib.hid (HS.out wr (T q) HGW.out)
        obtain ⟨t, ht⟩ : ∃ t, T q = t := ⟨_, rfl⟩
        have HT := Lib.hid ht
        rw [ht] at cq hen hcall
        clear ht
        go_wp2_with fail
        refine hcall.out.mono ?_
        rintro e w2 ⟨rfl, hg2⟩
        have ci2 : w2.cell? ⟨g, i, none⟩ = some (.int .i64 y) := hg2.cell ci (by simp)
        have ho2 := HOW.out.kept hg2 (.inr (by simp [Value.ownBlock]))
        have fi2 : w2.frozen? ⟨g, i, none⟩ = false := ho2.frozenAt i
        have HO2 := Lib.hid ho2
        have HG2 := Lib.hid (grown_trans HGW.out (grown_any hg2))
        clear ho2 hg2 cq ci hen hcall
        obtain ⟨pv, hpv⟩ : ∃ pv, p t = pv := ⟨_, rfl⟩
        rw [hpv]
        have HPV := Lib.hid hpv
        clear hpv
        cases pv with
        | true =>
          go_wp2_with fail
          go_roundw
          case rel => exact ⟨i, q + 1, X, rfl, by go_num, by omega, HI.out.skip (by rw [HT.out]; exact HPV.out), HO2.out, HG2.out⟩
          case measure => simp [intOf]; omega
        | false =>
          go_wp2_with fail
          go_roundw
          case rel =>
            have h3 := HO2.out.stored i (.int .i64 t)
            refine ⟨i + 1, q + 1, X.set i (T q), by go_num, by go_num, by omega, HI.out.keep hlt (by rw [HT.out]; exact HPV.out), ?_, grown_trans HG2.out h3.2⟩
            rw [HT.out]
            have := h3.1
            simpa [encI, List.map_set] using this
          case measure => simp [intOf]; omega
      · obtain rfl : q = m := by omega
        have hci : ¬ cap = i := by omega
        have hclr : (Builtin.clear_ #[30] 0 #[.slice (some ⟨g, i, none⟩) (q - i) (cap - i)]).run Try.prog wr = .ok (.tuple #[]) (wr.setCells g i (List.replicate (q - i) (.int .i64 0))) :=
          Lib.run_clear_slice wr 30 3 0 (.int .i64 0) Try.underlying30 info_int0 rfl rfl g i (q - i) (cap - i) (by omega) (fun j hj => by
            rw [hown.cellAt (i + j) (by omega)]
            rw [encI_get (x := X[i + j]'(by omega)) (List.getElem?_eq_getElem (by omega))]
            rfl) (fun j hj => hown.frozenAt _)
        have j1 : (0 : Int) ≤ (i : Int) := by omega
        have j2 : (i : Int) ≤ (cap : Int) := by omega
        have j3 : (i : Int) ≤ (q : Int) := by omega
        clear hI hown hgw
        go_wp2_with fail
        go_ret
        have e1 := HI.out.2.2.1
        have el : ((fl T q).filter (fun x => !p x)).length = i := by rw [← e1]; simp; omega
        have hst := own_setCells HOW.out (i := i) (List.replicate (q - i) 0) (by simp; omega)
        rw [show encI (List.replicate (q - i) 0) = List.replicate (q - i) (.int .i64 0) by simp [encI]] at hst
        refine ⟨by rw [el]; rfl, ?_, grown_trans HGW.out hst.2⟩
        unfold OwnI
        rw [el, ← e1]
        have hil : i ≤ X.length := by omega
        refine own_cut (l := X.take i) hst.1 (by simp; omega) (by omega) ?_
        unfold encI
        rw [← List.map_take]
        congr 1
        rw [List.append_assoc, List.take_append_of_le_length (by simp; omega), List.take_take]
        simp
theorem own_keep {w w' : World} {base : Nat} {e : TypeId} {sz n : Nat} {v : Value} {xs : List Value} (h : w.ownsRow base e sz v n xs) (hb : Below w.heap.size w w') : w'.ownsRow base e sz v n xs := by
  refine h.kept (row := none) ⟨hb.os, hb.tape, hb.output, hb.size, fun k hk _ => hb.block k hk⟩ ?_
  cases hv : v.ownBlock with
  | none => exact .inl rfl
  | some g => exact .inr (by simp)
theorem own_set {w : World} {base : Nat} {e : TypeId} {sz n : Nat} {v : Value} {xs : List Value} {b o : Nat} {u : Value} (h : w.ownsRow base e sz v n xs) (hb : b < base) : (w.setCell ⟨b, o, none⟩ u).ownsRow base e sz v n xs := by
  refine h.kept (row := some b) ⟨rfl, rfl, rfl, by simp, fun k _ hk => heap_setCell_other w ⟨b, o, none⟩ k u (fun e => hk (by simp [e]))⟩ ?_
  cases hv : v.ownBlock with
  | none => exact .inl rfl
  | some g =>
    have := (h.lt g hv).1
    refine .inr ?_
    intro hh
    injection hh with hh
    omega
/-- the copy of a supervisor: both rows of the call's own, in two blocks -/
def CopyPost (W : Wd) (w : World) (e : Ending) (w' : World) : Prop :=
  ∃ A c B d, e = .returned (.agg #[.int .i64 W.how, .int .i64 W.most, .int .i64 W.window, .slice A W.n c, .slice B W.m d]) ∧ w'.ownsRow w.heap.size 43 3 (.slice A W.n c) W.n (flatC (chC W.R) W.n) ∧ w'.ownsRow w.heap.size 3 1 (.slice B W.m d) W.m (flatC (tmC W.T) W.m) ∧
    (∀ a b, A = some a → B = some b → a.block < b.block) ∧ Below w.heap.size w w'
set_option maxRecDepth 100000 in
set_option maxHeartbeats 1000000 in
theorem copyOf_any (W : Wd) (A B : Option Addr) (c d : Nat) (w : World) (hn : W.n ≤ 20) (hm : W.m ≤ 50) (hA : A = none → W.n = 0) (hB : B = none → W.m = 0) (hR : Rd w 3 (chC W.R) A W.n) (hT : Rd w 1 (tmC W.T) B W.m) :
    Calls Try.prog 47 #[.agg #[.int .i64 W.how, .int .i64 W.most, .int .i64 W.window, .slice A W.n c, .slice B W.m d]] w (CopyPost W w) := by
  obtain ⟨how, most, window, R, n, T, m⟩ := W
  dsimp only at *
  have HR := Lib.hid hR
  have HT := Lib.hid hT
  have HA := Lib.hid hA
  have HB := Lib.hid hB
  clear hR hT hA hB
  go_enter Try.func47, Try.ntmps47
  go_wp2_with fail
  have hz : (w.heap.size + 1 + 1) = ((w.alloc (.cells #[.int .i64 how, .int .i64 most, .int .i64 window, .slice A n c, .slice B m d] 32)).alloc (.cells #[.int .i64 0, .int .i64 0, .int .i64 0, .slice none 0 0, .slice none 0 0] 32)).heap.size := by simp
  have HB0 := Lib.hid (((Below.refl w.heap.size w).alloc (Nat.le_refl _) (.cells #[.int .i64 how, .int .i64 most, .int .i64 window, .slice A n c, .slice B m d] 32)).alloc (by simp) (.cells #[.int .i64 0, .int .i64 0, .int .i64 0, .slice none 0 0, .slice none 0 0] 32))
  have p0 : ((w.alloc (.cells #[.int .i64 how, .int .i64 most, .int .i64 window, .slice A n c, .slice B m d] 32)).alloc (.cells #[.int .i64 0, .int .i64 0, .int .i64 0, .slice none 0 0, .slice none 0 0] 32)).cell? ⟨w.heap.size, 0, none⟩ = some (.int .i64 how) := by simp [go_sem]
  have p1 : ((w.alloc (.cells #[.int .i64 how, .int .i64 most, .int .i64 window, .slice A n c, .slice B m d] 32)).alloc (.cells #[.int .i64 0, .int .i64 0, .int .i64 0, .slice none 0 0, .slice none 0 0] 32)).cell? ⟨w.heap.size, 1, none⟩ = some (.int .i64 most) := by simp [go_sem]
  have p2 : ((w.alloc (.cells #[.int .i64 how, .int .i64 most, .int .i64 window, .slice A n c, .slice B m d] 32)).alloc (.cells #[.int .i64 0, .int .i64 0, .int .i64 0, .slice none 0 0, .slice none 0 0] 32)).cell? ⟨w.heap.size, 2, none⟩ = some (.int .i64 window) := by simp [go_sem]
  have p3 : ((w.alloc (.cells #[.int .i64 how, .int .i64 most, .int .i64 window, .slice A n c, .slice B m d] 32)).alloc (.cells #[.int .i64 0, .int .i64 0, .int .i64 0, .slice none 0 0, .slice none 0 0] 32)).cell? ⟨w.heap.size, 3, none⟩ = some (.slice A n c) := by simp [go_sem]
  have p4 : ((w.alloc (.cells #[.int .i64 how, .int .i64 most, .int .i64 window, .slice A n c, .slice B m d] 32)).alloc (.cells #[.int .i64 0, .int .i64 0, .int .i64 0, .slice none 0 0, .slice none 0 0] 32)).cell? ⟨w.heap.size, 4, none⟩ = some (.slice B m d) := by simp [go_sem]
  have pf : ∀ o, ((w.alloc (.cells #[.int .i64 how, .int .i64 most, .int .i64 window, .slice A n c, .slice B m d] 32)).alloc (.cells #[.int .i64 0, .int .i64 0, .int .i64 0, .slice none 0 0, .slice none 0 0] 32)).frozen? ⟨w.heap.size, o, none⟩ = false := fun o => by simp [go_sem]
  have qf : ∀ o, ((w.alloc (.cells #[.int .i64 how, .int .i64 most, .int .i64 window, .slice A n c, .slice B m d] 32)).alloc (.cells #[.int .i64 0, .int .i64 0, .int .i64 0, .slice none 0 0, .slice none 0 0] 32)).frozen? ⟨w.heap.size + 1, o, none⟩ = false := fun o => by simp [go_sem]
  have r0 : ((w.alloc (.cells #[.int .i64 how, .int .i64 most, .int .i64 window, .slice A n c, .slice B m d] 32)).alloc (.cells #[.int .i64 0, .int .i64 0, .int .i64 0, .slice none 0 0, .slice none 0 0] 32)).cell? ⟨w.heap.size + 1, 0, none⟩ = some (.int .i64 0) := by simp [go_sem]
  have r1 : ((w.alloc (.cells #[.int .i64 how, .int .i64 most, .int .i64 window, .slice A n c, .slice B m d] 32)).alloc (.cells #[.int .i64 0, .int .i64 0, .int .i64 0, .slice none 0 0, .slice none 0 0] 32)).cell? ⟨w.heap.size + 1, 1, none⟩ = some (.int .i64 0) := by simp [go_sem]
  have r2 : ((w.alloc (.cells #[.int .i64 how, .int .i64 most, .int .i64 window, .slice A n c, .slice B m d] 32)).alloc (.cells #[.int .i64 0, .int .i64 0, .int .i64 0, .slice none 0 0, .slice none 0 0] 32)).cell? ⟨w.heap.size + 1, 2, none⟩ = some (.int .i64 0) := by simp [go_sem]
  have r3 : ((w.alloc (.cells #[.int .i64 how, .int .i64 most, .int .i64 window, .slice A n c, .slice B m d] 32)).alloc (.cells #[.int .i64 0, .int .i64 0, .int .i64 0, .slice none 0 0, .slice none 0 0] 32)).cell? ⟨w.heap.size + 1, 3, none⟩ = some (.slice none 0 0) := by simp [go_sem]
  have r4 : ((w.alloc (.cells #[.int .i64 how, .int .i64 most, .int .i64 window, .slice A n c, .slice B m d] 32)).alloc (.cells #[.int .i64 0, .int .i64 0, .int .i64 0, .slice none 0 0, .slice none 0 0] 32)).cell? ⟨w.heap.size + 1, 4, none⟩ = some (.slice none 0 0) := by simp [go_sem]
  generalize hW0 : (w.alloc (.cells #[.int .i64 how, .int .i64 most, .int .i64 window, .slice A n c, .slice B m d] 32)).alloc (.cells #[.int .i64 0, .int .i64 0, .int .i64 0, .slice none 0 0, .slice none 0 0] 32) = W0 at *
  clear hW0
  go_region_with
    (first | (go_at_call 8; refine (cloneCh A n c (chC R) _ (HR.out.below HB0.out.drew) (chC_len R) (chC_one R) HA.out (by omega)).mono ?_; rintro e w1 ⟨v1, rfl, hown1, hb1⟩; obtain ⟨A1, c1, rfl, hnc1, hcm1, hA1⟩ := own_any hown1; have hz1 : W0.heap.size ≤ w1.heap.size := hb1.size; have F1 := Lib.hid (fun b o (h : b < W0.heap.size) => (bcell hb1).1 b o h); have G1 := Lib.hid (fun b o (h : b < W0.heap.size) => (bcell hb1).2 b o h); have x0 := (F1.out w.heap.size 0 (by omega)).trans p0; have x1 := (F1.out w.heap.size 1 (by omega)).trans p1; have x2 := (F1.out w.heap.size 2 (by omega)).trans p2; have x3 := (F1.out w.heap.size 3 (by omega)).trans p3; have x4 := (F1.out w.heap.size 4 (by omega)).trans p4; have s0 := (F1.out (w.heap.size + 1) 0 (by omega)).trans r0; have s1 := (F1.out (w.heap.size + 1) 1 (by omega)).trans r1; have s2 := (F1.out (w.heap.size + 1) 2 (by omega)).trans r2; have s3 := (F1.out (w.heap.size + 1) 3 (by omega)).trans r3; have s4 := (F1.out (w.heap.size + 1) 4 (by omega)).trans r4; have sf : ∀ o, w1.frozen? ⟨w.heap.size + 1, o, none⟩ = false := (fun o => (G1.out _ _ (by omega)).trans (qf o)); have xf : ∀ o, w1.frozen? ⟨w.heap.size, o, none⟩ = false := (fun o => (G1.out _ _ (by omega)).trans (pf o)); have HO1 := Lib.hid hown1; have HB1 := Lib.hid (HB0.out.drew.trans (hb1.mono (show w.heap.size ≤ W0.heap.size by omega))); have HA1 := Lib.hid hA1; clear hown1 hb1 hA1)
           | (go_at_call 9; refine (cloneInt B m d (tmC T) _ (HT.out.below HB1.out) (tmC_len T) (tmC_one T) HB.out (by omega)).mono ?_; rintro e w2 ⟨v2, rfl, hown2, hb2⟩; obtain ⟨B2, c2, rfl, hnc2, hcm2, hB2⟩ := own_any hown2; have hz2 : w1.heap.size ≤ w2.heap.size := hb2.size; have F2 := Lib.hid (fun b o (h : b < w1.heap.size) => (bcell hb2).1 b o h); have G2 := Lib.hid (fun b o (h : b < w1.heap.size) => (bcell hb2).2 b o h); have y0 := (F2.out w.heap.size 0 (by omega)).trans x0; have y1 := (F2.out w.heap.size 1 (by omega)).trans x1; have y2 := (F2.out w.heap.size 2 (by omega)).trans x2; have y3 := (F2.out w.heap.size 3 (by omega)).trans x3; have y4 := (F2.out w.heap.size 4 (by omega)).trans x4; have t0 := (F2.out (w.heap.size + 1) 0 (by omega)).trans s0; have t1 := (F2.out (w.heap.size + 1) 1 (by omega)).trans s1; have t2 := (F2.out (w.heap.size + 1) 2 (by omega)).trans s2; have t3 := (F2.out (w.heap.size + 1) 3 (by omega)).trans s3; have t4 := (F2.out (w.heap.size + 1) 4 (by omega)).trans s4; have tf : ∀ o, w2.frozen? ⟨w.heap.size + 1, o, none⟩ = false := (fun o => (G2.out _ _ (by omega)).trans (sf o)); have yf : ∀ o, w2.frozen? ⟨w.heap.size, o, none⟩ = false := (fun o => (G2.out _ _ (by omega)).trans (xf o)); have HO2 := Lib.hid hown2; have HO1' := Lib.hid (own_keep HO1.out hb2); have HB2 := Lib.hid (HB1.out.trans (hb2.mono (by omega))); have HBB2 := Lib.hid hB2; clear hown2 hb2 hB2))
  all_goals go_wp2_with fail
  all_goals
    refine bodyPost_ret (v := .agg #[.int .i64 how, .int .i64 most, .int .i64 window, .slice A1 n c1, .slice B2 m c2]) (by simp [results, Try.results47, go_sem, t0, t1, t2, t3, t4]) rfl ?_
    have e0 : W0.drew.heap.size = W0.heap.size := rfl
    refine ⟨A1, c1, B2, c2, rfl, ?_, ?_, ?_, ?_⟩
    · exact own_mono (own_set (own_set (own_set (own_set (own_set (own_set (own_set HO1'.out (by omega)) (by omega)) (by omega)) (by omega)) (by omega)) (by omega)) (by omega)) (by omega)
    · exact own_mono (own_set (own_set (own_set (own_set (own_set (own_set (own_set HO2.out (by omega)) (by omega)) (by omega)) (by omega)) (by omega)) (by omega)) (by omega)) (by omega)
    · intro a b ha hb
      have h1 := (HO1.out.lt a.block (by rw [ha]; rfl)).2
      have h2 := (HO2.out.lt b.block (by rw [hb]; rfl)).1
      omega
    · exact (((((((HB2.out.setCell (Nat.le_refl _) _).setCell (Nat.le_refl _) _).setCell (Nat.le_succ _) _).setCell (Nat.le_succ _) _).setCell (Nat.le_succ _) _).setCell (Nat.le_succ _) _).setCell (Nat.le_succ _) _)
end Go.Proofs.Ytcedogmhmpcfmaa.Wa
