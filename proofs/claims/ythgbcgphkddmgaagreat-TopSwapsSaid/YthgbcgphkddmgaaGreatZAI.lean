/- The contract of slices.Concat over ints. A slice of numbers as an argument; two equal rows. A row of the call's own of which the slice sees a part, from some place on: what is cut off in front, and appended behind. A range over a map of ways: what was visited. -/
import Derived.Test.YthgbcgphkddmgaaGreatZAD
import Derived.IntWalk
import Derived.Lib.AppendZeros
import Derived.Test.YthgbcgphkddmgaaGreatZAE
import Derived.SizedLaws
import Derived.Test.YthgbcgphkddmgaaGreatZAC
import Derived.ArgAppend
namespace Go.Proofs.YthgbcgphkddmgaaGreat
open Go.RowKit
set_option linter.unusedVariables false
/-- the numbers l, read through a slice whose block lies in S -/
def RdI (w : World) (S : Nat → Prop) (A : Option Addr) (l : List Int) : Prop :=
  0 < l.length → ∃ b off, A = some ⟨b, off, none⟩ ∧ b < w.heap.size ∧ S b ∧ ∀ j, j < l.length → w.cell? ⟨b, off + j, none⟩ = some (.int .i64 (lst l j))
/-- the lines Q, read through a slice whose blocks lie in S -/
def RdLs (w : World) (S : Nat → Prop) (A : Option Addr) (n : Nat) (Q : Nat → List Int) : Prop :=
  0 < n → ∃ b off, A = some ⟨b, off, none⟩ ∧ b < w.heap.size ∧ S b ∧ ∀ i, i < n → ∃ (qA : Option Addr) (qc : Nat), w.cell? ⟨b, off + i, none⟩ = some (.slice qA (Q i).length qc) ∧ (Q i).length ≤ qc ∧ qc ≤ 9223372036854775807 ∧ (qA = none → (Q i).length = 0) ∧ RdI w S qA (Q i)
theorem RdI.frame {w w' : World} {S S' : Nat → Prop} {A : Option Addr} {l : List Int} (h : RdI w S A l) (hsz : w.heap.size ≤ w'.heap.size) (hS : ∀ b, S b → b < w.heap.size → S' b ∧ w'.heap[b]? = w.heap[b]?) : RdI w' S' A l := fun h0 => by
  obtain ⟨b, off, hA, hb, hs, hc⟩ := h h0
  obtain ⟨s1, s2⟩ := hS b hs hb
  exact ⟨b, off, hA, by omega, s1, fun j hj => (World.cell?_of_block (a := ⟨b, _, none⟩) s2).trans (hc j hj)⟩
theorem RdLs.frame {w w' : World} {S S' : Nat → Prop} {A : Option Addr} {n : Nat} {Q : Nat → List Int} (h : RdLs w S A n Q) (hsz : w.heap.size ≤ w'.heap.size) (hS : ∀ b, S b → b < w.heap.size → S' b ∧ w'.heap[b]? = w.heap[b]?) : RdLs w' S' A n Q := fun h0 => by
  obtain ⟨b, off, hA, hb, hs, hc⟩ := h h0
  obtain ⟨s1, s2⟩ := hS b hs hb
  refine ⟨b, off, hA, by omega, s1, fun i hi => ?_⟩
  obtain ⟨qA, qc, h1, h2, h3, h4, h5⟩ := hc i hi
  exact ⟨qA, qc, (World.cell?_of_block (a := ⟨b, _, none⟩) s2).trans h1, h2, h3, h4, h5.frame hsz hS⟩
theorem RdI.below {w w' : World} {S : Nat → Prop} {A : Option Addr} {l : List Int} (h : RdI w S A l) (hb : Below w.heap.size w w') : RdI w' S A l := h.frame hb.size (fun b hs hlt => ⟨hs, hb.block b hlt⟩)
theorem RdLs.below {w w' : World} {S : Nat → Prop} {A : Option Addr} {n : Nat} {Q : Nat → List Int} (h : RdLs w S A n Q) (hb : Below w.heap.size w w') : RdLs w' S A n Q := h.frame hb.size (fun b hs hlt => ⟨hs, hb.block b hlt⟩)
theorem RdI.rd {w : World} {S : Nat → Prop} {A : Option Addr} {l : List Int} (h : RdI w S A l) : Rd w 1 (tmC (lst l)) A l.length := fun h0 => by
  obtain ⟨b, off, hA, hb, _, hc⟩ := h h0
  refine ⟨b, off, hA, hb, fun k hk j u hu => ?_⟩
  match j, hu with
  | 0, hu =>
    simp [tmC] at hu
    subst hu
    rw [Nat.mul_one, Nat.add_zero]
    exact hc k hk
/-- the tasks of the first i lines -/
def catTo (Q : Nat → List Int) : Nat → List Int
  | 0 => []
  | i + 1 => catTo Q i ++ Q i
def GrowPost (w : World) (e : Ending) (w' : World) : Prop := ∃ v, e = .returned v ∧ w'.ownsRow w.heap.size 3 1 v 0 [] ∧ Below w.heap.size w w'
def CatPost (l : List Int) (w : World) (e : Ending) (w' : World) : Prop := ∃ v, e = .returned v ∧ OwnI w' w.heap.size v l ∧ Below w.heap.size w w'
theorem encI_append (a b : List Int) : encI (a ++ b) = encI a ++ encI b := by simp [encI]
theorem encI_one (l : List Int) : ∀ u ∈ encI l, u.oneCell' = true := by
  intro u hu
  simp [encI] at hu
  obtain ⟨a, _, rfl⟩ := hu
  rfl
theorem append_none (w : World) (ty : TypeId) (base : Nat) (v : Value) (n : Nat) (xs : List Value) (hown : w.ownsRow base 3 1 v n xs) (qc : Nat) : (Builtin.append_ #[31, 31] ty #[v, .slice none 0 qc]).run Tryz.prog w = .ok v w := by
  obtain ⟨i0, hi, hz0, hz1, hz2⟩ := info_parts infoI
  rcases hown.2 with ⟨rfl, rfl⟩ | ⟨g, cap, cur, rfl, _, _, hnc, _⟩
  · simp [Builtin.append_, run_underlying Tryz.underlying31, sizeOf, typeInfo, hi, Builtin.lenOf, Builtin.firstCells]
  · simp [Builtin.append_, run_underlying Tryz.underlying31, sizeOf, typeInfo, hi, Builtin.lenOf, Builtin.firstCells, hnc, storeCells]
end Go.Proofs.YthgbcgphkddmgaaGreat
namespace Go.Proofs.YthgbcgphkddmgaaGreat
open Go.RowKit Go.ChangeShapes Go.WideShapes Go.Deep
set_option linter.unusedVariables false
set_option maxRecDepth 100000 in
theorem open_intsW {H : Type} {enc : TypeId × Value → H} {W : World} {base : Nat} {v : Value} {d : DataW H} {p : List MemPlace} (k0 : Value.okWide Tryz.prog W .any base 31 v) (h0 : DataW.Trod enc Tryz.prog W 0 (fun _ => true) true 31 v d p) :
    ∃ A n c T, v = .slice A n c ∧ n ≤ c ∧ c ≤ 9223372036854775807 ∧ (A = none → n = 0) ∧ Rd W 1 (tmC T) A n ∧ ∀ i, i < n → (Lit.int .i64 (T i)).wf = true := by
  obtain ⟨a0, l0, cp0, rfl⟩ := okWide_slice Tryz.underlying31 k0
  obtain ⟨fuel, hf⟩ := h0
  obtain ⟨A, n, c, C, hcs, hnc, hcm, hA, hR, hlen, hel⟩ := open_rows Tryz.underlying31 (by kernel_rfl) (sz := 1) (by omega) hf
  have hv : Value.slice a0 l0 cp0 = .slice A n c := by simpa [Value.cells] using hcs
  have hvi : ∀ j, ∃ z : Int, j < n → C j = [.int .i64 z] ∧ (Lit.int .i64 z).wf = true := fun j => by
    by_cases hj : j < n
    · obtain ⟨m2, q2, hy2⟩ := hel j hj
      obtain ⟨z, e, _, hw⟩ := DataW.trod_int Tryz.underlying3 hy2
      exact ⟨z, fun _ => ⟨e, hw⟩⟩
    · exact ⟨0, fun h => absurd h hj⟩
  obtain ⟨Z, hZ⟩ := Classical.axiomOfChoice hvi
  exact ⟨A, n, c, Z, hv, hnc, hcm, hA, hR.congr fun k hk => by unfold tmC; rw [(hZ k hk).1], fun i hi => (hZ i hi).2⟩
theorem equalI_same (A B : Option Addr) (n m c d : Nat) (T U : Nat → Int) (w : World) (hnm : n = m) (hn : n ≤ 9223372036854775807) (hT : Rd w 1 (tmC T) A n) (hU : Rd w 1 (tmC U) B m) (he : ∀ k, k < n → T k = U k) :
    Calls Tryz.prog 17 #[.slice A n c, .slice B m d] w fun e w' => e = .returned (.bool true) ∧ Below w.heap.size w w' := by
  subst hnm
  refine (equalI_any A B n c n d T U w hn hn hT hU).mono ?_
  rintro e w' ⟨rfl, q, rfl⟩
  refine ⟨ret_bool ?_, below_drewN (Below.refl _ _) _⟩
  rw [anyOf_false.2 (fun j hj => by simp [he j hj])]
  simp
end Go.Proofs.YthgbcgphkddmgaaGreat
namespace Go.Proofs.YthgbcgphkddmgaaGreat
open Go.RowKit
/-- an array into which a run has been written -/
def setRun : Array Value → Nat → List Value → Array Value
  | cur, _, [] => cur
  | cur, o, v :: vs => setRun (cur.setIfInBounds o v) (o + 1) vs
theorem setRun_size (vs : List Value) : ∀ (cur : Array Value) (o : Nat), (setRun cur o vs).size = cur.size := by
  induction vs with
  | nil => intro cur o; rfl
  | cons v vs ih => intro cur o; rw [setRun, ih]; simp
theorem setRun_get (cur : Array Value) (o : Nat) (vs : List Value) {j : Nat} (h : o + vs.length ≤ cur.size) : (setRun cur o vs)[j]? = if o ≤ j ∧ j < o + vs.length then vs[j - o]? else cur[j]? := by
  induction vs generalizing cur o with
  | nil => rw [setRun, if_neg (by simp)]
  | cons v vs ih =>
    simp only [List.length_cons] at h
    rw [setRun, ih _ _ (by simp; omega)]
    simp only [List.length_cons]
    by_cases h1 : o + 1 ≤ j ∧ j < o + 1 + vs.length
    · rw [if_pos h1, if_pos (by omega), show j - o = (j - (o + 1)) + 1 by omega]
      simp
    · rw [if_neg h1]
      by_cases h2 : j = o
      · subst h2
        rw [if_pos (by omega), Array.getElem?_setIfInBounds, if_pos rfl, if_pos (by omega)]
        simp
      · rw [if_neg (by omega), Array.getElem?_setIfInBounds, if_neg (by omega)]
theorem heap_setCells_run (w : World) (g : Nat) (e : TypeId) (vs : List Value) : ∀ (o : Nat) (cur : Array Value), w.heap[g]? = some (.cells cur e (0, 0)) → (w.setCells g o vs).heap[g]? = some (.cells (setRun cur o vs) e (0, 0)) := by
  induction vs generalizing w with
  | nil => intro o cur h; exact h
  | cons v vs ih =>
    intro o cur h
    have e1 : w.setCells g o (v :: vs) = (w.setCell ⟨g, o, none⟩ v).setCells g (o + 1) vs := rfl
    rw [e1]
    exact ih _ (o + 1) _ (heap_setCell_same w g o cur e v h)
theorem grown_setCellsQ (w : World) (g : Nat) (vs : List Value) : ∀ (o : Nat), w.grownBy (w.setCells g o vs) (some g) := by
  induction vs generalizing w with
  | nil => intro o; exact grown_self _ _
  | cons v vs ih =>
    intro o
    have e1 : w.setCells g o (v :: vs) = (w.setCell ⟨g, o, none⟩ v).setCells g (o + 1) vs := rfl
    rw [e1]
    exact grown_step (grown_set (grown_self w _) v) (ih _ (o + 1)) (.inl rfl)
def QR (w : World) (base : Nat) (e : TypeId) (sz : Nat) (v : Value) (n : Nat) (xs : List Value) : Prop :=
  xs.length = n * sz ∧ ∃ (ao : Option Addr) (cap : Nat), v = .slice ao n cap ∧ n ≤ cap ∧ cap ≤ 9223372036854775807 ∧ (ao = none → cap = 0) ∧
    (0 < cap → ∃ (b off : Nat) (cur : Array Value), ao = some ⟨b, off, none⟩ ∧ base ≤ b ∧ w.heap[b]? = some (.cells cur e (0, 0)) ∧ off + cap * sz ≤ cur.size ∧ ∀ j, j < n * sz → cur[off + j]? = xs[j]?)
theorem QR.of_own {w : World} {base : Nat} {e : TypeId} {sz n : Nat} {v : Value} {xs : List Value} (h : w.ownsRow base e sz v n xs) : QR w base e sz v n xs := by
  refine ⟨h.1, ?_⟩
  rcases h.2 with ⟨hv, h0⟩ | ⟨g, cap, cur, hv, hb, hg, hnc, hcm, hcs, ht⟩
  · subst h0 hv
    exact ⟨none, 0, rfl, Nat.le_refl _, by omega, fun _ => rfl, fun h => by omega⟩
  · refine ⟨_, cap, hv, hnc, by unfold maxLen at hcm; omega, (fun h => by cases h), fun _ => ⟨g, 0, cur, rfl, hb, hg, by omega, fun j hj => ?_⟩⟩
    rw [← ht, Nat.zero_add, List.getElem?_take, if_pos hj]
    simp
theorem QR.form {w : World} {base : Nat} {e : TypeId} {sz n : Nat} {v : Value} {xs : List Value} (h : QR w base e sz v n xs) : ∃ ao cap, v = .slice ao n cap ∧ n ≤ cap ∧ cap ≤ 9223372036854775807 := by
  obtain ⟨_, ao, cap, h1, h2, h3, _⟩ := h
  exact ⟨ao, cap, h1, h2, h3⟩
theorem QR.grown {w w' : World} {base : Nat} {e : TypeId} {sz n : Nat} {v : Value} {xs : List Value} {row : Option Nat} (h : QR w base e sz v n xs) (hg : w.grownBy w' row) (hne : ∀ k, v.ownBlock = some k → row ≠ some k) : QR w' base e sz v n xs := by
  obtain ⟨h1, ao, cap, rfl, h3, h4, h5, h6⟩ := h
  refine ⟨h1, ao, cap, rfl, h3, h4, h5, fun h0 => ?_⟩
  obtain ⟨b, off, cur, rfl, hb, hh, hs, hx⟩ := h6 h0
  have hlt : b < w.heap.size := by
    rcases Nat.lt_or_ge b w.heap.size with hlt | hge
    · exact hlt
    · rw [Array.getElem?_eq_none hge] at hh; cases hh
  exact ⟨b, off, cur, rfl, hb, (hg.block b hlt (fun e => hne b rfl e.symm)).trans hh, hs, hx⟩
theorem QR.below {w w' : World} {base : Nat} {e : TypeId} {sz n : Nat} {v : Value} {xs : List Value} (h : QR w base e sz v n xs) (hb : Below w.heap.size w w') : QR w' base e sz v n xs := h.grown (grown_below (g := none) hb) (fun k _ e => by cases e)
theorem QR.blk {w : World} {base : Nat} {e : TypeId} {sz n : Nat} {ao : Option Addr} {cap : Nat} {xs : List Value} (h : QR w base e sz (.slice ao n cap) n xs) (h0 : 0 < cap) : ∃ b off, ao = some ⟨b, off, none⟩ ∧ base ≤ b ∧ b < w.heap.size ∧ (∀ j u, xs[j]? = some u → w.cell? ⟨b, off + j, none⟩ = some u) ∧ (∀ o, w.frozen? ⟨b, o, none⟩ = false) ∧ ∀ j, j < cap * sz → (w.cell? ⟨b, off + j, none⟩).isSome = true := by
  obtain ⟨h1, ao', cap', hv, h3, h4, h5, h6⟩ := h
  injection hv with e1 _ e2
  subst e1 e2
  obtain ⟨b, off, cur, rfl, hb, hh, hs, hx⟩ := h6 h0
  have hlt : b < w.heap.size := by
    rcases Nat.lt_or_ge b w.heap.size with hlt | hge
    · exact hlt
    · rw [Array.getElem?_eq_none hge] at hh; cases hh
  refine ⟨b, off, rfl, hb, hlt, fun j u hj => ?_, fun o => Go.frozen_of_row w b o cur e hh, fun j hj => ?_⟩
  · have hj' : j < n * sz := by
      rcases Nat.lt_or_ge j (n * sz) with hh | hh
      · exact hh
      · rw [List.getElem?_eq_none (by omega)] at hj; cases hj
    rw [Go.cell_of_row w b (off + j) cur e (0, 0) hh, hx j hj', hj]
  · rw [Go.cell_of_row w b (off + j) cur e (0, 0) hh, Array.getElem?_eq_getElem (by omega)]
    rfl
/-- the first element is cut off -/
theorem QR.tail {w : World} {base : Nat} {e : TypeId} {sz n cap : Nat} {b off : Nat} {xs : List Value} (h : QR w base e sz (.slice (some ⟨b, off, none⟩) (n + 1) cap) (n + 1) xs) (A : Option Addr) (hA : A = if cap = 1 then some ⟨b, off, none⟩ else some ⟨b, off + sz, none⟩) : QR w base e sz (.slice A n (cap - 1)) n (xs.drop sz) := by
  obtain ⟨h1, ao, cap', hv, h3, h4, h5, h6⟩ := h
  injection hv with e1 _ e2
  subst e1 e2
  obtain ⟨b', off', cur, hab, hb, hh, hs, hx⟩ := h6 (by omega)
  injection hab with hab
  injection hab with e1 e2
  subst e1 e2
  refine ⟨by rw [List.length_drop, h1, Nat.succ_mul]; omega, A, cap - 1, rfl, by omega, by omega, (fun hn => by rw [hA] at hn; split at hn <;> cases hn), fun h0 => ?_⟩
  rw [if_neg (by omega)] at hA
  have hm : cap * sz = (cap - 1) * sz + sz := by
    conv => lhs; rw [show cap = (cap - 1) + 1 by omega]
    rw [Nat.succ_mul]
  refine ⟨b, off + sz, cur, hA, hb, hh, by omega, fun j hj => ?_⟩
  rw [List.getElem?_drop, Nat.add_assoc, hx (sz + j) (by rw [Nat.succ_mul]; omega)]
end Go.Proofs.YthgbcgphkddmgaaGreat
namespace Go.Proofs.YthgbcgphkddmgaaGreat
open Go.RowKit Go.Maps
set_option linter.unusedVariables false
set_option linter.unusedSimpArgs false
/-- block b holds the map g; the iterator at r has given L -/
def RngW (w : World) (b r : Nat) (g : Nat → Nat → Option Value) (L : List (Nat × Nat)) : Prop :=
  ∃ n D left cnt, w.ranges Tryz.prog 100 anyElem b r n D left cnt ∧ (∀ i k, i < 9 → k < 9 → has D (.string (kB i k)) = (g i k).isSome ∧ ∀ z, D.atKey (.string (kB i k)) (.held z) = .held ((g i k).getD z)) ∧ L.Nodup ∧ (∀ p, p ∈ L → p.1 < 9 ∧ p.2 < 9 ∧ (g p.1 p.2).isSome = true) ∧ (∀ i k, i < 9 → k < 9 → left (.string (kB i k)) = ((g i k).isSome && !decide ((i, k) ∈ L))) ∧ ∀ kl, left kl = true → ∃ i k, i < 9 ∧ k < 9 ∧ kl = .string (kB i k)
theorem RngW.fr {S : Nat → Prop} {w w' : World} {b r : Nat} {g : Nat → Nat → Option Value} {L : List (Nat × Nat)} (h : RngW w b r g L) (hf : Fr S w w') (hb : ¬ S b) (hr : ¬ S r) : RngW w' b r g L ∧ w'.rangeLeft b r = w.rangeLeft b r := by
  obtain ⟨n, D, left, cnt, ⟨es, clock, since, seen, c0, h1, h2, h3, h4, h5, h6⟩, k⟩ := h
  have e1 : w'.heap[b]? = w.heap[b]? := hf.block b (Array.getElem?_eq_some_iff.1 h1).1 hb
  have e2 : w'.heap[r]? = w.heap[r]? := hf.block r (Array.getElem?_eq_some_iff.1 h5).1 hr
  refine ⟨⟨n, D, left, cnt, ⟨es, clock, since, seen, c0, e1.trans h1, h2, h3, h4, e2.trans h5, h6⟩, k⟩, ?_⟩
  unfold World.rangeLeft
  rw [e1, e2]
theorem RngW.lt {w : World} {b r : Nat} {g : Nat → Nat → Option Value} {L : List (Nat × Nat)} (h : RngW w b r g L) : b < w.heap.size ∧ r < w.heap.size ∧ r ≠ b := by
  obtain ⟨n, D, left, cnt, h, _⟩ := h
  have hne := h.ne
  obtain ⟨es, clock, since, seen, c0, h1, h2, h3, h4, h5, h6⟩ := h
  exact ⟨(Array.getElem?_eq_some_iff.1 h1).1, (Array.getElem?_eq_some_iff.1 h5).1, hne⟩
set_option maxRecDepth 100000 in
theorem wp_range_W {o : Oper} {ops : Array Oper} {Q : Exit → Act → World → Prop} {rest : List Oper} {a : Act} {w : World} (hg : o.guard = none) (m : Operand) (t e : TypeId) (hop : o.op = Op.range t m) (ht : Tryz.prog.underlying t = some (.map 100 e)) (b n : Nat) (g : Nat → Nat → Option Value)
    (hm : a.eval m = .map (some b)) (hown : OwnW w b n g)
    (hK : ∀ w', RngW w' b w.heap.size g [] → Fr (fun _ => False) w w' → w'.heap.size = w.heap.size + 1 → wpList Tryz.prog ops Q rest (a.put o.dst (.pointer (some ⟨w.heap.size, 0, none⟩))) w') :
    wpList Tryz.prog ops Q (o :: rest) a w := by
  obtain ⟨D, h1, hs, h2, h4⟩ := hown
  refine wpList_range_own w hg m t hop 100 e lawW ht anyElem b n D hm h1 fun w' r1 r2 r3 => hK w' ⟨n, D, _, _, r1, h2, List.nodup_nil, (fun x hx => by simp at hx), fun i k hi hk => ?_, fun kl hkl => h4 kl hkl⟩ (Fr.of_grown r2 (fun k hk => by cases hk)) r3
  rw [(h2 i k hi hk).1]
  simp
set_option maxRecDepth 100000 in
theorem wp_next_W {o : Oper} {ops : Array Oper} {Q : Exit → Act → World → Prop} {rest : List Oper} {a : Act} {w : World} (hg : o.guard = none) (it : Operand) (hop : o.op = Op.next it false) (b r : Nat) (g : Nat → Nat → Option Value) (L : List (Nat × Nat))
    (hit : a.eval it = .pointer (some ⟨r, 0, none⟩)) (h : RngW w b r g L)
    (hDone : (∀ i k, i < 9 → k < 9 → (g i k).isSome = true → (i, k) ∈ L) → wpList Tryz.prog ops Q rest (a.put o.dst (.tuple #[.bool false])) w)
    (hMore : ∀ (i k : Nat) (v : Value) (w' : World), i < 9 → k < 9 → g i k = some v → (i, k) ∉ L → RngW w' b r g (L ++ [(i, k)]) → w'.rangeLeft b r < w.rangeLeft b r → Fr (fun k => k = r) w w' → w'.heap.size = w.heap.size → (Instr.entry (.pointer (some ⟨r, 0, none⟩))).run Tryz.prog w' = .ok (.tuple #[wayV i k, v]) w' → wpList Tryz.prog ops Q rest (a.put o.dst (.tuple #[.bool true, wayV i k, v])) w') :
    wpList Tryz.prog ops Q (o :: rest) a w := by
  obtain ⟨n, D, left, cnt, hr, h2, h3, h4, h5, h6⟩ := h
  refine wpList_next_ranges w hg it hop 100 lawW anyElem (fun v : Value => v) (fun v : Value => v) (fun key kl hkey => ⟨key, rfl⟩) (fun v y _ => ⟨v, rfl⟩) b r n D left cnt hit hr (fun hc hl => hDone fun i k hi hk hs => ?_) (fun x v kl y w' cnt' hkey hlk hv hat hrg hlt hgr hsz hen => ?_)
  · have := h5 i k hi hk
    rw [hl, hs] at this
    simpa using this.symm
  · obtain ⟨i, k, hi, hk, rfl⟩ := h6 kl hlk
    obtain rfl : x = wayV i k := lawW.inj hkey (keyW i k hi hk)
    have hl := h5 i k hi hk
    rw [hlk] at hl
    have hl' : (g i k).isSome = true ∧ (i, k) ∉ L := by simpa using hl.symm
    obtain ⟨v0, hv0⟩ := Option.isSome_iff_exists.1 hl'.1
    have hv1 : y.1 = .held v := by
      obtain ⟨y1, y2⟩ := y
      exact anyElem_inv hv
    have hv2 : v = v0 := by
      have := hat (.held v)
      rw [hv1, (h2 i k hi hk).2 v, hv0] at this
      injection this with this
      exact this.symm
    subst hv2
    refine hMore i k v w' hi hk hv0 hl'.2 ⟨n, D, _, cnt', hrg, h2, ?_, fun z hz => ?_, fun j l hj hl => ?_, fun kl hkl => h6 kl (Bool.and_eq_true_iff.1 hkl).1⟩ ?_ (Fr.of_grown hgr (fun k hk => .inl (by injection hk with hk; exact hk.symm))) hsz hen
    · rw [List.nodup_append]
      refine ⟨h3, by simp, fun c hc d hd => ?_⟩
      rw [List.mem_singleton] at hd
      exact fun e => hl'.2 (hd ▸ e ▸ hc)
    · rcases List.mem_append.1 hz with hz | hz
      · exact h4 z hz
      · rw [List.mem_singleton] at hz
        subst hz
        exact ⟨hi, hk, hl'.1⟩
    · rw [h5 j l hj hl]
      by_cases e : j = i ∧ l = k
      · obtain ⟨rfl, rfl⟩ := e
        simp [Lit.sameKey]
      · have e1 : (Lit.string (kB j l)).sameKey (.string (kB i k)) = false := by
          have hne : kB j l ≠ kB i k := fun h => e (injW hj hl hi hk h)
          simp [Lit.sameKey, hne]
        have e2 : (j, l) ≠ (i, k) := fun h => e ⟨by injection h, by injection h⟩
        simp [e1, e2]
    · rw [hrg.left_eq, hr.left_eq]
      exact hlt
end Go.Proofs.YthgbcgphkddmgaaGreat
