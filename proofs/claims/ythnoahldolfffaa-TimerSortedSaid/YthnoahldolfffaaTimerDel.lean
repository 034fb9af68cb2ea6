/- slices.DeleteFunc over timers. -/
import Derived.Test.YthnoahldolfffaaTimerRow
import Derived.Test.YthnoahldolfffaaRowOps
namespace Go.Proofs.Ythnoahldolfffaa
open Go.RowKit
set_option linter.unusedVariables false
theorem encD_get {l : List Du} {k : Nat} {x : Du} (h : l[k]? = some x) : (encD l)[k * 2]? = some (.int .i64 x.at_) ∧ (encD l)[k * 2 + 1]? = some (.int .i64 x.id) := by
  obtain ⟨hk, rfl⟩ := List.getElem?_eq_some_iff.1 h
  have h0 := flatC_get (g := duC (nthD l)) (sz := 2) (duC_len _) hk (j := 0) (by omega)
  have h1 := flatC_get (g := duC (nthD l)) (sz := 2) (duC_len _) hk (j := 1) (by omega)
  rw [flatC_du] at h0 h1
  rw [Nat.add_zero] at h0
  have e : nthD l k = l[k] := by simp [nthD, hk]
  exact ⟨by rw [h0]; simp [duC, e], by rw [h1]; simp [duC, e]⟩
theorem encD_set (l : List Du) : ∀ (k : Nat) (x : Du), ((encD l).set (k * 2) (.int .i64 x.at_)).set (k * 2 + 1) (.int .i64 x.id) = encD (l.set k x) := by
  induction l with
  | nil => intro k x; simp [encD]
  | cons y l ih =>
    intro k x
    have e : encD (y :: l) = .int .i64 y.at_ :: .int .i64 y.id :: encD l := rfl
    cases k with
    | zero => rw [e]; rfl
    | succ k =>
      have h2 : (k + 1) * 2 = k * 2 + 1 + 1 := by omega
      rw [e, h2, List.set_cons_succ, List.set_cons_succ, List.set_cons_succ, List.set_cons_succ, ih k x]
      rfl
theorem encD_take (l : List Du) (k : Nat) : (encD l).take (k * 2) = encD (l.take k) := by
  by_cases h : k ≤ l.length
  · conv => lhs; rw [← List.take_append_drop k l, encD_append]
    rw [List.take_append_of_le_length (by rw [encD_len, List.length_take]; omega), List.take_of_length_le (by rw [encD_len, List.length_take]; omega)]
  · rw [List.take_of_length_le (by rw [encD_len]; omega), List.take_of_length_le (by omega)]
/-- the state of DeleteFunc's loop: of the first q timers those that stay lie in front -/
def DelInv (p : Du → Bool) (l : List Du) (i q : Nat) (X : List Du) : Prop := X.length = l.length ∧ i < q ∧ X.take i = (l.take q).filter (fun x => !p x) ∧ X.drop q = l.drop q
theorem DelInv.at_q {p : Du → Bool} {l : List Du} {i q : Nat} {X : List Du} (h : DelInv p l i q X) : X[q]? = l[q]? := by
  have h1 : (X.drop q)[0]? = (l.drop q)[0]? := by rw [h.2.2.2]
  simpa using h1
theorem DelInv.start {p : Du → Bool} {l : List Du} {k : Nat} {x : Du} (hk : l[k]? = some x) (hp : p x = true) (hno : ∀ j y, j < k → l[j]? = some y → p y = false) : DelInv p l k (k + 1) l := by
  obtain ⟨hkl, he⟩ := List.getElem?_eq_some_iff.1 hk
  refine ⟨rfl, by omega, ?_, rfl⟩
  rw [List.take_succ_eq_append_getElem hkl, he, List.filter_append]
  have h1 : (l.take k).filter (fun x => !p x) = l.take k := by
    rw [List.filter_eq_self]
    intro y hy
    obtain ⟨j, hj, rfl⟩ := List.mem_iff_getElem.1 hy
    rw [List.length_take] at hj
    rw [List.getElem_take]
    simp [hno j _ (by omega) (List.getElem?_eq_getElem (by omega))]
  rw [h1]
  simp [hp]
theorem DelInv.skip {p : Du → Bool} {l : List Du} {i q : Nat} {X : List Du} {x : Du} (h : DelInv p l i q X) (hq : l[q]? = some x) (hp : p x = true) : DelInv p l i (q + 1) X := by
  obtain ⟨h1, h2, h3, h4⟩ := h
  obtain ⟨hql, he⟩ := List.getElem?_eq_some_iff.1 hq
  refine ⟨h1, by omega, ?_, ?_⟩
  · rw [List.take_succ_eq_append_getElem hql, he, List.filter_append, h3]; simp [hp]
  · rw [← List.drop_drop, h4, List.drop_drop]
theorem DelInv.keep {p : Du → Bool} {l : List Du} {i q : Nat} {X : List Du} {x : Du} (h : DelInv p l i q X) (hq : l[q]? = some x) (hp : p x = false) : DelInv p l (i + 1) (q + 1) (X.set i x) := by
  obtain ⟨h1, h2, h3, h4⟩ := h
  obtain ⟨hql, he⟩ := List.getElem?_eq_some_iff.1 hq
  refine ⟨by simpa using h1, by omega, ?_, ?_⟩
  · rw [List.take_succ_eq_append_getElem hql, he, List.filter_append, ← h3, List.take_succ_eq_append_getElem (by rw [List.length_set]; omega), List.take_set_of_le (Nat.le_refl _), List.getElem_set_self]
    simp [hp]
  · rw [List.drop_set_of_lt (by omega), ← List.drop_drop, h4, List.drop_drop]
theorem grown_trans {a b c : World} {row : Option Nat} (h1 : a.grownBy b row) (h2 : b.grownBy c row) : a.grownBy c row := grown_step h1 h2 (.inl rfl)
theorem grown_any {a b : World} {row : Option Nat} (h : a.grownBy b none) : a.grownBy b row := ⟨h.os, h.tape, h.output, h.size, fun k hk _ => h.block k hk (by simp)⟩
/-- the predicate says p x wherever at most the row's block has changed, and changes nothing that lies -/
def SaysD (w : World) (g f : Nat) (cp : Array Value) (p : Du → Bool) : Prop := ∀ W (x : Du), w.grownBy W (some g) → Calls Try.prog f (#[.agg #[.int .i64 x.at_, .int .i64 x.id]] ++ cp) W fun e W' => e = .returned (.bool (p x)) ∧ W.grownBy W' none
theorem zeroD : ∀ w, (zeroValue 34).run Try.prog w = .ok (.agg #[.int .i64 0, .int .i64 0]) w := fun w => by kernel_rfl
def DelPost (base g cap : Nat) (l : List Du) (w : World) (e : Ending) (w' : World) : Prop :=
  e = .returned (.slice (some ⟨g, 0, none⟩) l.length cap) ∧ OwnD w' base (.slice (some ⟨g, 0, none⟩) l.length cap) l ∧ w.grownBy w' (some g)
/-- a shorter slice of a row some of whose later cells were written -/
theorem own_cleared {base g n cap i : Nat} {w : World} {X : List Du} (h : w.ownsRow base 34 2 (.slice (some ⟨g, 0, none⟩) n cap) n (encD X)) (hX : X.length = n) (hi : i ≤ n) (vs : List Value) (hv : i * 2 + vs.length ≤ n * 2) :
    OwnD (w.setCells g (i * 2) vs) base (.slice (some ⟨g, 0, none⟩) i cap) (X.take i) ∧ w.grownBy (w.setCells g (i * 2) vs) (some g) := by
  refine ⟨?_, grown_setCells _ _ _ _⟩
  rcases h.2 with ⟨h', _⟩ | ⟨g', cap', cur, hv', hb, hg, hnc, hcm, hcs, ht⟩
  · cases h'
  · injection hv' with e1 e2 e3
    injection e1 with e1
    injection e1 with e1
    subst e1 e3
    have hl : (X.take i).length = i := by rw [List.length_take]; omega
    have hsz : i * 2 + vs.length ≤ cur.size := by rw [hcs]; have := Nat.mul_le_mul_right 2 hnc; omega
    refine ⟨by rw [encD_len], .inr ⟨g, cap, _, by rw [hl], hb, setCells_heap hg hsz, by rw [hl]; omega, hcm, ?_, ?_⟩⟩
    · simp
      omega
    · rw [hl]
      show ((cur.toList.take (i * 2) ++ vs ++ cur.toList.drop (i * 2 + vs.length)).toArray.toList).take (i * 2) = encD (X.take i)
      rw [List.append_assoc, List.take_append_of_le_length (by rw [List.length_take, Array.length_toList]; omega), List.take_take, Nat.min_self, ← encD_take, ← ht, List.take_take]
      congr 1
      omega
set_option maxRecDepth 100000 in
set_option maxHeartbeats 4000000 in
theorem delF_any (base g cap f : Nat) (cp : Array Value) (l : List Du) (p : Du → Bool) (w : World) (hm : l.length ≤ 1000) (he : Enters Try.prog f)
    (ho : OwnD w base (.slice (some ⟨g, 0, none⟩) l.length cap) l) (hs : SaysD w g f cp p) :
    Calls Try.prog 21 #[.slice (some ⟨g, 0, none⟩) l.length cap, .func (.func f) #[] cp] w (DelPost base g cap (l.filter (fun x => !p x)) w) := by
  have ho' : w.ownsRow base 34 2 (.slice (some ⟨g, 0, none⟩) l.length cap) l.length (encD l) := ho
  have hix : Calls Try.prog 34 #[.slice (some ⟨g, 0, none⟩) l.length cap, .func (.func f) #[] cp] w fun e w' => e = .returned (.int .i64 (ixOf (fun k => p (nthD l k)) l.length)) ∧ w.grownBy w' none :=
    ixD_any (fun W => w.grownBy W none) (some ⟨g, 0, none⟩) g 0 l.length cap f cp (fun k => .int .i64 (nthD l k).at_) (fun k => .int .i64 (nthD l k).id) (fun k => p (nthD l k)) w (by omega) (fun _ => rfl) he (fun W hW k hk => by
      have h1 := (ho'.kept hW (.inr (by simp [Value.ownBlock])))
      have hg := encD_get (l := l) (k := k) (x := nthD l k) (by simp [nthD, hk])
      exact ⟨by rw [Nat.zero_add]; exact (h1.cellAt (k * 2) (by omega)).trans hg.1, by rw [Nat.zero_add]; exact (h1.cellAt (k * 2 + 1) (by omega)).trans hg.2⟩)
      (fun W hW k hk => (hs W (nthD l k) (grown_any hW)).mono fun e W' ⟨h1, h2⟩ => ⟨h1, grown_trans hW h2⟩) (grown_self _ _)
  have HIX := Lib.hid hix
  have HO := Lib.hid ho'
  have HS := Lib.hid hs
  have HE := Lib.hid he
  obtain ⟨hnc, hcm⟩ := own_cap ho'
  clear hix ho hs he ho'
  rcases ixOf_cases (fun k => p (nthD l k)) l.length with ⟨hix, hno⟩ | ⟨k, hix, hk, hp, hno⟩
  · have HN := Lib.hid hno
    have HX := Lib.hid hix
    clear hno hix
    go_enter Try.func21, Try.ntmps21
    go_wp2_with fail
    refine HIX.out.mono ?_
    rintro e w1 ⟨rfl, hg⟩
    rw [HX.out]
    go_wp2_with fail
    go_ret
    have e1 : l.filter (fun x => !p x) = l := by
      rw [List.filter_eq_self]
      intro x hx
      obtain ⟨j, hj, rfl⟩ := List.mem_iff_getElem.1 hx
      have := HN.out j hj
      simp [nthD, hj] at this
      simp [this]
    rw [e1]
    exact ⟨rfl, HO.out.kept hg (.inr (by simp [Value.ownBlock])), grown_any hg⟩
  · have HI := Lib.hid (DelInv.start (p := p) (l := l) (k := k) (x := nthD l k) (by simp [nthD, hk]) hp (fun j y hj hy => by
      have := hno j hj
      have e : nthD l j = y := by simp [nthD, hy]
      rw [e] at this
      exact this))
    have HX := Lib.hid hix
    have hlt1 : ((k : Int) == -1) = false := beq_eq_false_iff_ne.2 (by omega)
    clear hno hix hp
    go_enter Try.func21, Try.ntmps21
    go_wp2_with fail
    refine HIX.out.mono ?_
    rintro e w1 ⟨rfl, hg⟩
    rw [HX.out]
    have HG := Lib.hid hg
    clear hg
    go_wp2_with fail
    go_loopw [5, 6, 7] (fun a b _ wr => ∃ (i q : Nat) (X : List Du), a = .int .i64 i ∧ b = .int .i64 q ∧ q ≤ l.length ∧ DelInv p l i q X ∧ wr.ownsRow base 34 2 (.slice (some ⟨g, 0, none⟩) l.length cap) l.length (encD X) ∧ w.grownBy wr (some g)) (fun _ b _ _ => l.length - (intOf b).toNat)
    case atStart => exact ⟨k, k + 1, l, rfl, by go_num, by omega, HI.out, HO.out.kept HG.out (.inr (by simp [Value.ownBlock])), grown_any HG.out⟩
    case round =>
      obtain ⟨i, q, X, rfl, rfl, hq, hI, hown, hgw⟩ := hrel
      have hiq := hI.2.1
      have hXl := Lib.hid hI.1
      have hXle : X.length ≤ 1000 := by rw [hI.1]; omega
      have HI := Lib.hid hI
      have HOW := Lib.hid hown
      have HGW := Lib.hid hgw
      by_cases hlt : q < l.length
      · obtain ⟨t, ht⟩ : ∃ t, l[q]? = some t := ⟨_, List.getElem?_eq_getElem hlt⟩
        obtain ⟨y, hy⟩ : ∃ y, X[i]? = some y := ⟨_, List.getElem?_eq_getElem (by rw [hI.1]; omega)⟩
        have gq := encD_get (hI.at_q.trans ht)
        have gi := encD_get hy
        have cq0 : wr.cell? ⟨g, q * 2, none⟩ = some (.int .i64 t.at_) := (hown.cellAt (q * 2) (by omega)).trans gq.1
        have cq1 : wr.cell? ⟨g, q * 2 + 1, none⟩ = some (.int .i64 t.id) := (hown.cellAt (q * 2 + 1) (by omega)).trans gq.2
        have ci0 : wr.cell? ⟨g, i * 2, none⟩ = some (.int .i64 y.at_) := (hown.cellAt (i * 2) (by omega)).trans gi.1
        have ci1 : wr.cell? ⟨g, i * 2 + 1, none⟩ = some (.int .i64 y.id) := (hown.cellAt (i * 2 + 1) (by omega)).trans gi.2
        have hen := HE.out (#[.agg #[.int .i64 t.at_, .int .i64 t.id]] ++ cp) (wr.alloc (.cells #[.int .i64 t.at_, .int .i64 t.id] 34))
        have HCI := Lib.hid (And.intro ci0 ci1)
        have HTQ := Lib.hid ht
        have hcall := Lib.hid (HS.out (wr.alloc (.cells #[.int .i64 t.at_, .int .i64 t.id] 34)) t (grown_alloc HGW.out _))
        have hglt := (own_lt hown).2
        clear hy hI hown hgw gq gi ht ci0 ci1
        go_wp2_with fail
        refine hcall.out.mono ?_
        rintro e w2 ⟨rfl, hg2⟩
        have hg2' : wr.grownBy w2 none := grown_step (World.grownBy_alloc wr _ none) hg2 (.inl rfl)
        have ci0 : w2.cell? ⟨g, i * 2, none⟩ = some (.int .i64 y.at_) := hg2'.cell HCI.out.1 (by simp)
        have ci1 : w2.cell? ⟨g, i * 2 + 1, none⟩ = some (.int .i64 y.id) := hg2'.cell HCI.out.2 (by simp)
        have v0 : w2.cell? ⟨wr.heap.size, 0, none⟩ = some (.int .i64 t.at_) := (hg2.cell (v := .int .i64 t.at_) (by simp) (by simp))
        have v1 : w2.cell? ⟨wr.heap.size, 1, none⟩ = some (.int .i64 t.id) := (hg2.cell (v := .int .i64 t.id) (by simp) (by simp))
        have ho2 := HOW.out.kept hg2' (.inr (by simp [Value.ownBlock]))
        have fi2 : ∀ o, w2.frozen? ⟨g, o, none⟩ = false := fun o => ho2.frozenAt o
        have HO2 := Lib.hid ho2
        have HG2 := Lib.hid (grown_trans HGW.out (grown_any hg2'))
        clear ho2 hg2 hg2' cq0 cq1 hen hcall
        obtain ⟨pv, hpv⟩ : ∃ pv, p t = pv := ⟨_, rfl⟩
        rw [hpv]
        have HPV := Lib.hid hpv
        clear hpv
        cases pv with
        | true =>
          go_wp2_with fail
          go_roundw
          case rel => exact ⟨i, q + 1, X, rfl, by go_num, by omega, HI.out.skip HTQ.out HPV.out, HO2.out, HG2.out⟩
          case measure => simp [intOf]; omega
        | false =>
          go_wp2_with fail
          go_roundw
          case rel =>
            have h3 := HO2.out.stored (i * 2) (.int .i64 t.at_)
            have h4 := h3.1.stored (i * 2 + 1) (.int .i64 t.id)
            rw [encD_set] at h4
            exact ⟨i + 1, q + 1, X.set i t, by go_num, by go_num, by omega, HI.out.keep HTQ.out HPV.out, h4.1, grown_trans (grown_trans HG2.out h3.2) h4.2⟩
          case measure => simp [intOf]; omega
      · obtain rfl : q = l.length := by omega
        have hci : ¬ cap = i := by omega
        have hzl : (Builtin.zeroCells (Value.agg #[.int .i64 0, .int .i64 0]).cells (l.length - i)).toList.length = (l.length - i) * 2 := zeroCells_len _ _
        have hclr : (Builtin.clear_ #[22] 0 #[.slice (some ⟨g, i * 2, none⟩) (l.length - i) (cap - i)]).run Try.prog wr = .ok (.tuple #[]) (wr.setCells g (i * 2) (Builtin.zeroCells (Value.agg #[.int .i64 0, .int .i64 0]).cells (l.length - i)).toList) :=
          run_clear_sz wr 22 34 0 (.agg #[.int .i64 0, .int .i64 0]) Try.underlying22 zeroD g (i * 2) (l.length - i) (cap - i) (by omega) (fun j hj => by
            rw [hzl] at hj
            rw [hown.cellAt (i * 2 + j) (by omega)]
            rw [List.getElem?_eq_getElem (by rw [encD_len, hI.1]; omega)]
            rfl) (fun j hj => hown.frozenAt _) (fun v hv => by
            simp [Builtin.zeroCells] at hv
            obtain ⟨a, _, hv⟩ := hv
            subst hv
            have h2 : a % 2 = 0 ∨ a % 2 = 1 := by omega
            rcases h2 with h2 | h2 <;> simp [Value.cells, h2, Value.oneCell'])
        have j1 : (0 : Int) ≤ (i : Int) := by omega
        have j2 : (i : Int) ≤ (cap : Int) := by omega
        have j3 : (i : Int) ≤ (l.length : Int) := by omega
        have HCL := Lib.hid (own_cleared (i := i) hown hI.1 (by omega) (Builtin.zeroCells (Value.agg #[.int .i64 0, .int .i64 0]).cells (l.length - i)).toList (by rw [hzl]; omega))
        clear hI hown hgw
        go_wp2_with fail
        go_ret
        have e1 := HI.out.2.2.1
        rw [List.take_length] at e1
        have el : (l.filter (fun x => !p x)).length = i := by rw [← e1, List.length_take, HI.out.1]; omega
        refine ⟨by rw [el]; rfl, ?_, grown_trans HGW.out HCL.out.2⟩
        rw [el, ← e1]
        exact HCL.out.1
end Go.Proofs.Ythnoahldolfffaa
