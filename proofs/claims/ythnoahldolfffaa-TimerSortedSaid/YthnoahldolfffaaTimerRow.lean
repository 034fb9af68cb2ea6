/- Rows of timers of the call's own: words; slices.Clone and slices.SortFunc over them. -/
import Derived.Test.YthnoahldolfffaaTimerChk
import Derived.Test.YthnoahldolfffaaSortF
import Derived.Sort.OwnSortedInts
namespace Go.Proofs.Ythnoahldolfffaa
open Go.RowKit
set_option linter.unusedVariables false
def nthD (l : List Du) : Nat → Du := fun k => l.getD k default
def encDu (x : Du) : List Value := [.int .i64 x.at_, .int .i64 x.id]
def encD (l : List Du) : List Value := l.flatMap encDu
theorem encD_len (l : List Du) : (encD l).length = l.length * 2 := by
  induction l with
  | nil => rfl
  | cons x l ih => unfold encD at ih ⊢; rw [List.flatMap_cons, List.length_append, ih]; simp [encDu]; omega
theorem encD_append (l m : List Du) : encD (l ++ m) = encD l ++ encD m := by simp [encD]
theorem flatC_take_lst (l : List Du) : ∀ n, n ≤ l.length → flatC (duC (nthD l)) n = encD (l.take n) := by
  intro n
  induction n with
  | zero => intro _; rfl
  | succ n ih =>
    intro hn
    have e : duC (nthD l) n = encDu l[n] := by
      unfold duC nthD encDu
      rw [List.getD_eq_getElem?_getD, List.getElem?_eq_getElem (by omega), Option.getD_some]
    rw [flatC, ih (by omega), List.take_succ_eq_append_getElem (by omega), encD_append, e]
    simp [encD]
theorem flatC_du (l : List Du) : flatC (duC (nthD l)) l.length = encD l := by rw [flatC_take_lst l _ (Nat.le_refl _), List.take_length]
theorem encD_one (l : List Du) : ∀ u ∈ encD l, u.oneCell' = true := by
  intro u hu
  unfold encD at hu
  rw [List.mem_flatMap] at hu
  obtain ⟨j, _, h⟩ := hu
  simp [encDu] at h
  rcases h with rfl | rfl <;> rfl
def OwnD (w : World) (base : Nat) (v : Value) (l : List Du) : Prop := w.ownsRow base 34 2 v l.length (encD l)
/-- a slice that reads as timers -/
def Sd (w : World) (v : Value) (l : List Du) : Prop := ∃ A c, v = .slice A l.length c ∧ l.length ≤ c ∧ c ≤ 9223372036854775807 ∧ (A = none → l.length = 0) ∧ Rd w 2 (duC (nthD l)) A l.length
theorem Sd.below {w w' : World} {v : Value} {l : List Du} (h : Sd w v l) (hb : Below w.heap.size w w') : Sd w' v l := by
  obtain ⟨A, c, e, h1, h2, h3, h4⟩ := h
  exact ⟨A, c, e, h1, h2, h3, h4.below hb⟩
theorem Sd.nil (w : World) : Sd w (.slice none 0 0) [] := ⟨none, 0, rfl, Nat.le_refl _, by omega, fun _ => rfl, fun h => by simp at h⟩
theorem OwnD.rd {w : World} {base n c : Nat} {A : Option Addr} {l : List Du} (h : OwnD w base (.slice A n c) l) : Rd w 2 (duC (nthD l)) A l.length := by
  obtain ⟨A', c', hv, _⟩ := own_any h
  injection hv with h1 h2 h3
  subst h1 h2 h3
  refine Rd.of_own (duC_len _) (c := c) (base := base) (e := 34) ?_
  rw [flatC_du]
  exact h
theorem Sd.of_own {w : World} {base : Nat} {v : Value} {l : List Du} (h : OwnD w base v l) : Sd w v l := by
  obtain ⟨A, c, rfl, h1, h2, h3⟩ := own_any h
  exact ⟨A, c, rfl, h1, h2, h3, h.rd⟩
theorem OwnD.nil (w : World) (base : Nat) : OwnD w base (.slice none 0 0) [] := World.ownsRow_nil _ _ _ _
theorem OwnD.alloc {w : World} {base : Nat} {v : Value} {l : List Du} (h : OwnD w base v l) (o : Obj) : OwnD (w.alloc o) base v l := World.ownsRow.alloc h o
theorem OwnD.grown {w w1 : World} {base : Nat} {v : Value} {l : List Du} {row : Option Nat} (h : OwnD w base v l) (hg : w.grownBy w1 row) (hne : ∀ k, v.ownBlock = some k → row ≠ some k) : OwnD w1 base v l := own_grown h hg hne
theorem OwnD.below {w w1 : World} {base : Nat} {v : Value} {l : List Du} (h : OwnD w base v l) (hb : Below w.heap.size w w1) : OwnD w1 base v l := own_keep h hb
theorem OwnD.mono {w : World} {base base' : Nat} {v : Value} {l : List Du} (h : OwnD w base v l) (hb : base' ≤ base) : OwnD w base' v l := own_mono h hb
theorem OwnD.blk {w : World} {base : Nat} {v : Value} {l : List Du} (h : OwnD w base v l) : ∀ k, v.ownBlock = some k → base ≤ k ∧ k < w.heap.size := World.ownsRow.lt h
theorem info_cloneDr : (Try.prog.info? 34).map (fun i => (i.zero, i.size, i.bytes)) = some (some (.agg #[.int .i64 0, .int .i64 0]), 2, 16) := by kernel_rfl
set_option maxRecDepth 100000 in
set_option maxHeartbeats 400000 in
theorem cloneDr (A : Option Addr) (n c : Nat) (g : Nat → List Value) (w : World) (hR : Rd w 2 g A n) (hl : ∀ k, (g k).length = 2) (h1 : ∀ k u, u ∈ g k → u.oneCell' = true)
    (hA : A = none → n = 0) (hn : n * 16 ≤ 140737488355328) :
    Calls Try.prog 22 #[.slice A n c] w (ClonePost 34 2 n (flatC g n) w) := by
  obtain ⟨i0, hi, hz0, hz1, hz2⟩ := info_parts info_cloneDr
  have hnil := fun (w : World) => Lib.run_eql_slice_nil (P := Try.prog) w
  cases A with
  | none =>
    obtain rfl := hA rfl
    clear hR hl h1 hA hi hz0 hz1 hz2 hn
    go_enter Try.func22, Try.ntmps22
    go_wp2_with fail
    go_ret
    exact ⟨_, rfl, World.ownsRow_nil _ _ _ _, Below.refl _ _⟩
  | some a =>
    have hn0 : ∀ (o : Obj) j u, (flatC g n)[j]? = some u → (w.alloc o).cell? (a.add j) = some u := fun o j u hu => by
      obtain ⟨q1, q2, q3⟩ := flatC_at hl (by omega) hu
      obtain ⟨b, off, hab, hb, hc⟩ := hR (by omega)
      injection hab with hab
      subst hab
      have e : (⟨b, off, none⟩ : Addr).add j = ⟨b, off + j / 2 * 2 + j % 2, none⟩ := by
        have := Nat.div_add_mod' j 2
        unfold Addr.add
        split
        · rename_i h; subst h; simp
        · simp; omega
      rw [e, World.cell?_alloc_lt _ _ _ hb]
      exact hc _ q1 _ _ q3
    have HN := Lib.hid hn0
    have H1 := Lib.hid h1
    have HL := Lib.hid (flatC_length hl n)
    clear hR hl h1 hA hn0
    go_enter Try.func22, Try.ntmps22
    go_wp2_with (at_builtin; refine wpList_append_own _ rfl _ _ 22 rfl w.heap.size 34 i0 _ 2 16 Try.underlying22 hi hz0 hz1 hz2 rfl (by omega) (.slice (some ⟨w.heap.size, 0, none⟩) 0 0) 0 [] rfl (World.ownsRow_lit w #[] 0 (Nat.le_refl _) (by simp [maxLen]) rfl) a n c (flatC g n) rfl HL.out (HN.out _) (fun u hu => by obtain ⟨k, _, hk⟩ := flatC_mem hu; exact H1.out k u hk) (by unfold maxLen; omega) (by omega) (by simp) ?_; intro v1 w1 hown hgrow _; simp only [Nat.zero_add, List.nil_append] at hown)
    go_ret
    exact ⟨v1, rfl, hown, ((Below.refl _ _).alloc (Nat.le_refl _) _).grown hgrow (by simp) (by simp [Value.ownBlock])⟩

theorem cloneD_any (A : Option Addr) (c : Nat) (l : List Du) (w : World) (hS : Sd w (.slice A l.length c) l) (hl : l.length ≤ 1000000) :
    Calls Try.prog 22 #[.slice A l.length c] w fun e w' => ∃ A' c', e = .returned (.slice A' l.length c') ∧ OwnD w' w.heap.size (.slice A' l.length c') l ∧ Below w.heap.size w w' := by
  obtain ⟨A0, c0, e, h1, h2, h3, h4⟩ := hS
  injection e with e1 e2 e3
  subst e1 e3
  refine (cloneDr A l.length c (duC (nthD l)) w h4 (duC_len _) (duC_one _) h3 (by omega)).mono ?_
  rintro e w1 ⟨v1, rfl, hown1, hb1⟩
  rw [flatC_du] at hown1
  obtain ⟨A1, c1, rfl, _, _, _⟩ := own_any hown1
  exact ⟨A1, c1, rfl, hown1, hb1⟩
/-! the order of timers -/
theorem cmpD_neg (x y : Du) : cmpD x y < 0 ↔ x.at_ < y.at_ ∨ (x.at_ = y.at_ ∧ x.id < y.id) := by
  unfold cmpD orI cmpI
  repeat' split
  all_goals omega
theorem cmpD_zero (x y : Du) : cmpD x y = 0 ↔ x = y := by
  obtain ⟨a, i⟩ := x
  obtain ⟨b, j⟩ := y
  simp only [Du.mk.injEq]
  unfold cmpD orI cmpI
  dsimp only
  repeat' split
  all_goals omega
def ltD (x y : Du) : Bool := decide (cmpD x y < 0)
theorem swoD : Go.Sort.SWO (Go.Proofs.ltOf cmpD) where
  irrefl x := by
    show decide (cmpD x x < 0) = false
    simp [cmpD_neg]
  trans x y z h1 h2 := by
    have h1' : decide (cmpD x y < 0) = true := h1
    have h2' : decide (cmpD y z < 0) = true := h2
    show decide (cmpD x z < 0) = true
    simp only [decide_eq_true_eq, cmpD_neg] at *
    omega
  ntrans x y z h1 h2 := by
    have h1' : decide (cmpD x y < 0) = false := h1
    have h2' : decide (cmpD y z < 0) = false := h2
    show decide (cmpD x z < 0) = false
    simp only [decide_eq_false_iff_not, cmpD_neg] at *
    omega
theorem totD (x y : Du) (h1 : Go.Proofs.ltOf cmpD x y = false) (h2 : Go.Proofs.ltOf cmpD y x = false) : x = y := by
  have h1' : decide (cmpD x y < 0) = false := h1
  have h2' : decide (cmpD y x < 0) = false := h2
  simp only [decide_eq_false_iff_not, cmpD_neg] at *
  obtain ⟨a, i⟩ := x
  obtain ⟨b, j⟩ := y
  simp only [Du.mk.injEq]
  dsimp only at *
  omega
/-- the timers in their order -/
def srtD (l : List Du) : List Du := l.mergeSort fun x y => !(Go.Proofs.ltOf cmpD) y x
theorem srtD_perm (l : List Du) : (srtD l).Perm l := List.mergeSort_perm _ _
theorem srtD_len (l : List Du) : (srtD l).length = l.length := (srtD_perm l).length_eq
/-! a row sorted by the library -/
theorem flatK_du (l : List Du) : (Go.Sort.flatK encDu 2 l.toArray).toList = encD l := by
  apply List.ext_getElem?
  intro t
  by_cases ht : t < l.length * 2
  · have h1 : (Go.Sort.flatK encDu 2 l.toArray).toList[t]? = some ((Go.Sort.flatK encDu 2 l.toArray)[t]!) := by
      have hs : t < (Go.Sort.flatK encDu 2 l.toArray).size := by rw [Go.Sort.size_flatK]; simpa using ht
      rw [Array.getElem?_toList, Array.getElem?_eq_getElem hs, getElem!_pos (Go.Sort.flatK encDu 2 l.toArray) t hs]
    rw [h1, Go.Sort.get_flatK _ _ _ _ (by simpa using ht)]
    have hk : t / 2 < l.length := by omega
    have hm : t % 2 < 2 := by omega
    have h2 : (encD l)[t]? = (encDu l[t / 2])[t % 2]? := by
      have h3 := flatC_get (g := duC (nthD l)) (sz := 2) (duC_len _) hk hm
      rw [flatC_du, Nat.div_add_mod'] at h3
      rw [h3]
      unfold duC nthD encDu
      rw [List.getD_eq_getElem?_getD, List.getElem?_eq_getElem hk, Option.getD_some]
    rw [h2]
    have h4 : l.toArray[t / 2]! = l[t / 2] := by simp [hk]
    rw [h4]
    have hlen : t % 2 < (encDu l[t / 2]).length := hm
    rw [List.getElem?_eq_getElem hlen, getElem!_pos (encDu l[t / 2]) (t % 2) hlen]
  · rw [List.getElem?_eq_none (by rw [Array.length_toList, Go.Sort.size_flatK]; simp; omega), List.getElem?_eq_none (by rw [encD_len]; omega)]
theorem heap_sortedV {w : World} {g n : Nat} {os : Array Obj} {cur : Array Value} {e : TypeId} {fr : Nat × Nat} (d : Array Value) (hb : w.heap[g]? = some (.cells cur e fr)) :
    (Go.Sort.grow (Go.Sort.putRow id (Go.Sort.ahead w n) g 0 d) os).heap[g]? = some (.cells (Go.Sort.putCells id 0 d cur) e fr) := by
  have hg : g < w.heap.size := (Array.getElem?_eq_some_iff.1 hb).1
  rw [Go.Sort.heap_grow_old _ _ (by simpa using hg)]
  simp [Go.Sort.putRow, Go.Sort.mapBlock, Go.Sort.ahead, Array.getElem?_modify, hb, Go.Sort.onCells]
theorem grownBy_sortedV {w : World} {g n : Nat} {os : Array Obj} (d : Array Value) : w.grownBy (Go.Sort.grow (Go.Sort.putRow id (Go.Sort.ahead w n) g 0 d) os) (some g) := by
  refine ⟨rfl, rfl, rfl, by simp, fun k hk hne => ?_⟩
  rw [Go.Sort.heap_grow_old _ _ (by simpa using hk)]
  have : g ≠ k := fun e => hne (by rw [e])
  simp [Go.Sort.putRow, Go.Sort.mapBlock, Go.Sort.ahead, Array.getElem?_modify, this]
theorem take_putCellsV (cur : Array Value) (ts : List Value) (h : ts.length ≤ cur.size) : (Go.Sort.putCells id 0 ts.toArray cur).toList.take ts.length = ts := by
  apply List.ext_getElem?
  intro j
  by_cases hj : j < ts.length
  · rw [List.getElem?_take_of_lt hj, Array.getElem?_toList]
    simp [Go.Sort.putCells, hj, show j < cur.size by omega]
  · rw [List.getElem?_take_eq_none (by omega), List.getElem?_eq_none (by omega)]
def SortPost (base : Nat) (v : Value) (l : List Du) (w : World) (e : Ending) (w' : World) : Prop := e = .returned (.tuple #[]) ∧ OwnD w' base v (srtD l) ∧ w.grownBy w' v.ownBlock
theorem order_enters : ∀ args w, (callFunc 19 args).run Try.prog w = .ok (.enter 19 args) w := fun _ _ => by kernel_rfl
theorem sort_own (base : Nat) (v : Value) (l : List Du) (w : World) (h : OwnD w base v l) (h0 : 0 < l.length) (hl : l.length < 4611686018427387904) : Calls Try.prog 24 #[v, .func (.func 19) #[] #[]] w (SortPost base v l w) := by
  have hown : w.ownsRow base 34 2 v l.length (encD l) := h
  rcases h.2 with ⟨rfl, h0'⟩ | ⟨g, cap, cur, rfl, hb, hg, hnc, hcm, hcs, htake⟩
  · omega
  · have hlt := (Array.getElem?_eq_some_iff.1 hg).1
    have hH : Go.Sort.HoldsK encDu 2 w g 0 l.toArray := by
      intro j hj
      rw [Go.Sort.size_flatK] at hj
      have hj' : j < l.length * 2 := by simpa using hj
      refine ⟨?_, by simp [World.frozen?, hg]⟩
      rw [Nat.zero_add, hown.cellAt j hj', ← flatK_du]
      have hs : j < (Go.Sort.flatK encDu 2 l.toArray).size := by rw [Go.Sort.size_flatK]; simpa using hj'
      rw [Array.getElem?_toList, Array.getElem?_eq_getElem hs, getElem!_pos (Go.Sort.flatK encDu 2 l.toArray) j hs]
      rfl
    have hs := Try.sort_func encDu (fun _ => rfl) (fun x u hu => by simp [encDu] at hu; rcases hu with rfl | rfl <;> rfl) cmpD swoD 19 #[] g 0 cap l.toArray w order_enters
      (fun m os dk _ x y => order_any x y _) hH hlt (by simpa using hl) totD
    rw [show l.toArray.toList.mergeSort (fun x y => !(Go.Proofs.ltOf cmpD) y x) = srtD l from rfl] at hs
    have hs' : Calls Try.prog 24 #[.slice (some ⟨g, 0, none⟩) l.length cap, .func (.func 19) #[] #[]] w fun e w' => e = .returned (.tuple #[]) ∧ ∃ n os, w' = sortWorldK encDu 2 w g 0 n (srtD l).toArray os := by
      simpa using hs
    refine hs'.mono ?_
    rintro e w' ⟨rfl, n, os, rfl⟩
    have hF : Go.Sort.flatK encDu 2 (srtD l).toArray = (encD (srtD l)).toArray := by rw [← flatK_du]
    have hw : sortWorldK encDu 2 w g 0 n (srtD l).toArray os = Go.Sort.grow (Go.Sort.putRow id (Go.Sort.ahead w n) g 0 (encD (srtD l)).toArray) os := by
      unfold sortWorldK Go.Sort.putRowK
      rw [hF]
    rw [hw]
    refine ⟨rfl, ?_, grownBy_sortedV _⟩
    have hsl := srtD_len l
    have hel := encD_len (srtD l)
    refine ⟨by rw [hel], .inr ⟨g, cap, _, by rw [hsl], hb, heap_sortedV _ hg, by omega, hcm, by simp [Go.Sort.putCells, hcs], ?_⟩⟩
    rw [show (srtD l).length * 2 = (encD (srtD l)).length by rw [hel]]
    exact take_putCellsV cur _ (by rw [hel, hsl, hcs]; omega)
end Go.Proofs.Ythnoahldolfffaa
