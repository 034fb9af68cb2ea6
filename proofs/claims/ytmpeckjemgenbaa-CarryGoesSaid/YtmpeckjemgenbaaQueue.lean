/- A row of the call's own of which the slice sees a part, from some place on: what is cut off in front, and appended behind. -/
import Derived.Test.YtmpeckjemgenbaaRow
import Derived.ArgAppend
namespace Go.Proofs.Ytmpeckjemgenbaa
open Go.RowKit
/-- an array into which a run has been written -/
def setRun : Array Value → Nat → List Value → Array Value
  | cur, _, [] => cur
  | cur, o, v :: vs => setRun (cur.setIfInBounds o v) (o + 1) vs
theorem setRun_size (vs : List Value) : ∀ (cur : Array Value) (o : Nat), (setRun cur o vs).size = cur.size := by
  induction vs with
  | nil => intro cur o; rfl
  | cons v vs ih => intro cur o; rw [setRun, ih]; simp
theorem setRun_get (cur : Array Value) (o : Nat) (vs : List Value) {j : Nat} (h : o + vs.length ≤ cur.size) : (setRun cur o vs)[j]? = if o ≤ j ∧ j < o + vs.length then vs[j - o]? else cur[j]? := by
  induction vs generalizing cur o with
  | nil => rw [setRun, if_neg (by simp)]
  | cons v vs ih =>
    simp only [List.length_cons] at h
    rw [setRun, ih _ _ (by simp; omega)]
    simp only [List.length_cons]
    by_cases h1 : o + 1 ≤ j ∧ j < o + 1 + vs.length
    · rw [if_pos h1, if_pos (by omega), show j - o = (j - (o + 1)) + 1 by omega]
      simp
    · rw [if_neg h1]
      by_cases h2 : j = o
      · subst h2
        rw [if_pos (by omega), Array.getElem?_setIfInBounds, if_pos rfl, if_pos (by omega)]
        simp
      · rw [if_neg (by omega), Array.getElem?_setIfInBounds, if_neg (by omega)]
theorem heap_setCells_run (w : World) (g : Nat) (e : TypeId) (vs : List Value) : ∀ (o : Nat) (cur : Array Value), w.heap[g]? = some (.cells cur e (0, 0)) → (w.setCells g o vs).heap[g]? = some (.cells (setRun cur o vs) e (0, 0)) := by
  induction vs generalizing w with
  | nil => intro o cur h; exact h
  | cons v vs ih =>
    intro o cur h
    have e1 : w.setCells g o (v :: vs) = (w.setCell ⟨g, o, none⟩ v).setCells g (o + 1) vs := rfl
    rw [e1]
    exact ih _ (o + 1) _ (heap_setCell_same w g o cur e v h)
theorem grown_setCellsQ (w : World) (g : Nat) (vs : List Value) : ∀ (o : Nat), w.grownBy (w.setCells g o vs) (some g) := by
  induction vs generalizing w with
  | nil => intro o; exact grown_self _ _
  | cons v vs ih =>
    intro o
    have e1 : w.setCells g o (v :: vs) = (w.setCell ⟨g, o, none⟩ v).setCells g (o + 1) vs := rfl
    rw [e1]
    exact grown_step (grown_set (grown_self w _) v) (ih _ (o + 1)) (.inl rfl)
def QR (w : World) (base : Nat) (e : TypeId) (sz : Nat) (v : Value) (n : Nat) (xs : List Value) : Prop :=
  xs.length = n * sz ∧ ∃ (ao : Option Addr) (cap : Nat), v = .slice ao n cap ∧ n ≤ cap ∧ cap ≤ 9223372036854775807 ∧ (ao = none → cap = 0) ∧
    (0 < cap → ∃ (b off : Nat) (cur : Array Value), ao = some ⟨b, off, none⟩ ∧ base ≤ b ∧ w.heap[b]? = some (.cells cur e (0, 0)) ∧ off + cap * sz ≤ cur.size ∧ ∀ j, j < n * sz → cur[off + j]? = xs[j]?)
theorem QR.of_own {w : World} {base : Nat} {e : TypeId} {sz n : Nat} {v : Value} {xs : List Value} (h : w.ownsRow base e sz v n xs) : QR w base e sz v n xs := by
  refine ⟨h.1, ?_⟩
  rcases h.2 with ⟨hv, h0⟩ | ⟨g, cap, cur, hv, hb, hg, hnc, hcm, hcs, ht⟩
  · subst h0 hv
    exact ⟨none, 0, rfl, Nat.le_refl _, by omega, fun _ => rfl, fun h => by omega⟩
  · refine ⟨_, cap, hv, hnc, by unfold maxLen at hcm; omega, (fun h => by cases h), fun _ => ⟨g, 0, cur, rfl, hb, hg, by omega, fun j hj => ?_⟩⟩
    rw [← ht, Nat.zero_add, List.getElem?_take, if_pos hj]
    simp
theorem QR.form {w : World} {base : Nat} {e : TypeId} {sz n : Nat} {v : Value} {xs : List Value} (h : QR w base e sz v n xs) : ∃ ao cap, v = .slice ao n cap ∧ n ≤ cap ∧ cap ≤ 9223372036854775807 := by
  obtain ⟨_, ao, cap, h1, h2, h3, _⟩ := h
  exact ⟨ao, cap, h1, h2, h3⟩
theorem QR.grown {w w' : World} {base : Nat} {e : TypeId} {sz n : Nat} {v : Value} {xs : List Value} {row : Option Nat} (h : QR w base e sz v n xs) (hg : w.grownBy w' row) (hne : ∀ k, v.ownBlock = some k → row ≠ some k) : QR w' base e sz v n xs := by
  obtain ⟨h1, ao, cap, rfl, h3, h4, h5, h6⟩ := h
  refine ⟨h1, ao, cap, rfl, h3, h4, h5, fun h0 => ?_⟩
  obtain ⟨b, off, cur, rfl, hb, hh, hs, hx⟩ := h6 h0
  have hlt : b < w.heap.size := by
    rcases Nat.lt_or_ge b w.heap.size with hlt | hge
    · exact hlt
    · rw [Array.getElem?_eq_none hge] at hh; cases hh
  exact ⟨b, off, cur, rfl, hb, (hg.block b hlt (fun e => hne b rfl e.symm)).trans hh, hs, hx⟩
theorem QR.below {w w' : World} {base : Nat} {e : TypeId} {sz n : Nat} {v : Value} {xs : List Value} (h : QR w base e sz v n xs) (hb : Below w.heap.size w w') : QR w' base e sz v n xs := h.grown (grown_below (g := none) hb) (fun k _ e => by cases e)
theorem QR.blk {w : World} {base : Nat} {e : TypeId} {sz n : Nat} {ao : Option Addr} {cap : Nat} {xs : List Value} (h : QR w base e sz (.slice ao n cap) n xs) (h0 : 0 < cap) : ∃ b off, ao = some ⟨b, off, none⟩ ∧ base ≤ b ∧ b < w.heap.size ∧ (∀ j u, xs[j]? = some u → w.cell? ⟨b, off + j, none⟩ = some u) ∧ (∀ o, w.frozen? ⟨b, o, none⟩ = false) ∧ ∀ j, j < cap * sz → (w.cell? ⟨b, off + j, none⟩).isSome = true := by
  obtain ⟨h1, ao', cap', hv, h3, h4, h5, h6⟩ := h
  injection hv with e1 _ e2
  subst e1 e2
  obtain ⟨b, off, cur, rfl, hb, hh, hs, hx⟩ := h6 h0
  have hlt : b < w.heap.size := by
    rcases Nat.lt_or_ge b w.heap.size with hlt | hge
    · exact hlt
    · rw [Array.getElem?_eq_none hge] at hh; cases hh
  refine ⟨b, off, rfl, hb, hlt, fun j u hj => ?_, fun o => frozen_of_row w b o cur e hh, fun j hj => ?_⟩
  · have hj' : j < n * sz := by
      rcases Nat.lt_or_ge j (n * sz) with hh | hh
      · exact hh
      · rw [List.getElem?_eq_none (by omega)] at hj; cases hj
    rw [cell_of_row w b (off + j) cur e (0, 0) hh, hx j hj', hj]
  · rw [cell_of_row w b (off + j) cur e (0, 0) hh, Array.getElem?_eq_getElem (by omega)]
    rfl
/-- the first element is cut off -/
theorem QR.tail {w : World} {base : Nat} {e : TypeId} {sz n cap : Nat} {b off : Nat} {xs : List Value} (h : QR w base e sz (.slice (some ⟨b, off, none⟩) (n + 1) cap) (n + 1) xs) (A : Option Addr) (hA : A = if cap = 1 then some ⟨b, off, none⟩ else some ⟨b, off + sz, none⟩) : QR w base e sz (.slice A n (cap - 1)) n (xs.drop sz) := by
  obtain ⟨h1, ao, cap', hv, h3, h4, h5, h6⟩ := h
  injection hv with e1 _ e2
  subst e1 e2
  obtain ⟨b', off', cur, hab, hb, hh, hs, hx⟩ := h6 (by omega)
  injection hab with hab
  injection hab with e1 e2
  subst e1 e2
  refine ⟨by rw [List.length_drop, h1, Nat.succ_mul]; omega, A, cap - 1, rfl, by omega, by omega, (fun hn => by rw [hA] at hn; split at hn <;> cases hn), fun h0 => ?_⟩
  rw [if_neg (by omega)] at hA
  have hm : cap * sz = (cap - 1) * sz + sz := by
    conv => lhs; rw [show cap = (cap - 1) + 1 by omega]
    rw [Nat.succ_mul]
  refine ⟨b, off + sz, cur, hA, hb, hh, by omega, fun j hj => ?_⟩
  rw [List.getElem?_drop, Nat.add_assoc, hx (sz + j) (by rw [Nat.succ_mul]; omega)]
/-- one element more -/
theorem wpList_append_q {P : Program} {ops : Array Oper} {rest : List Oper} {o : Oper} {a : Act} {w : World} {Q : Exit → Act → World → Prop} (hgd : o.guard = none) (s x : Operand) (t : TypeId)
    (ho : o.op = .call { callee := .builtin .append, args := #[s, x], argTypes := #[t, t] }) (base : Nat) (e : TypeId) (i : TypeInfo) (z : Value) (sz bytes : Nat) (ht : P.underlying t = some (.slice e)) (hi : P.info? e = some i) (hz : i.zero = some z)
    (hsize : i.size = sz) (hby : i.bytes = bytes) (hzs : z.cells.size = sz) (hsz : 0 < sz) (v : Value) (n : Nat) (xs : List Value) (hs : a.eval s = v) (hq : QR w base e sz v n xs) (b : Nat) (news : List Value) (hx : a.eval x = .slice (some ⟨b, 0, none⟩) 1 1)
    (hl : news.length = sz) (hnews : ∀ j u, news[j]? = some u → w.cell? ((⟨b, 0, none⟩ : Addr).add j) = some u) (h1 : ∀ u ∈ news, u.oneCell' = true) (h63 : n + 1 ≤ maxLen) (hbytes : (n + 1) * bytes ≤ 140737488355328) (hbase : base ≤ w.heap.size)
    (h : ∀ v' w', QR w' base e sz v' (n + 1) (xs ++ news) → w.grownBy w' v.ownBlock → (v'.ownBlock = v.ownBlock ∨ ∃ g, v'.ownBlock = some g ∧ w.heap.size ≤ g) → wpList P ops Q rest (a.put o.dst v') w') : wpList P ops Q (o :: rest) a w := by
  have hq0 := hq
  obtain ⟨hxl, ao, cap, rfl, h3, h4, h5, h6⟩ := hq
  by_cases hroom : n + 1 ≤ cap
  · obtain ⟨g, off, rfl, hgb, hlt, hcell, hfr, hsp⟩ := hq0.blk (by omega)
    have hm : (n + 1) * sz ≤ cap * sz := Nat.mul_le_mul_right _ hroom
    rw [Nat.succ_mul] at hm
    refine wpList_append_arg w hgd s x t ho e i z sz bytes ht hi hz hsize hby hzs hsz g off n cap xs hs hxl hcell ⟨b, 0, none⟩ 1 1 news hx (by rw [hl, Nat.one_mul]) hnews h1 (fun _ j hj => ⟨by rw [Nat.add_assoc]; exact hsp _ (by omega), hfr _⟩) h63 hbytes (fun _ => ?_) (fun hh => absurd hroom (by omega))
    obtain ⟨b', off', cur, hab, hb, hh, hss, hxx⟩ := h6 (by omega)
    injection hab with hab
    injection hab with e1 e2
    subst e1 e2
    have hblk : (w.setCells g (off + n * sz) news).heap[g]? = some (.cells (setRun cur (off + n * sz) news) e (0, 0)) := heap_setCells_run w g e news (off + n * sz) cur hh
    refine h _ _ ⟨by rw [List.length_append, hxl, hl, Nat.succ_mul], some ⟨g, off, none⟩, cap, rfl, hroom, h4, (fun hn => by cases hn), fun _ => ⟨g, off, _, rfl, hb, hblk, by rw [setRun_size]; exact hss, fun j hj => ?_⟩⟩ (grown_setCellsQ w g news _) (.inl rfl)
    rw [setRun_get _ _ _ (by omega)]
    by_cases hjn : j < n * sz
    · rw [if_neg (by omega), List.getElem?_append_left (by omega), hxx j hjn]
    · rw [Nat.succ_mul] at hj
      rw [if_pos (by omega), List.getElem?_append_right (by omega), hxl]
      congr 1
      omega
  · refine wpList_append_grows w hgd s x t ho e i z sz bytes ht hi hz hsize hby hzs hsz ao n cap xs hs (fun hn => ⟨by have := h5 hn; omega, h5 hn⟩) hxl (fun bb hbb j u hj => ?_) ⟨b, 0, none⟩ 1 1 news hx (by rw [hl, Nat.one_mul]) hnews h1 (by omega) h63 hbytes (fun v' w' hown hg => ?_)
    · have h0 : 0 < cap := by
        rcases Nat.eq_zero_or_pos n with hn0 | hn0
        · subst hn0
          rw [List.getElem?_eq_none (by omega)] at hj; cases hj
        · omega
      obtain ⟨g, off, hab, _, _, hcell, _, _⟩ := hq0.blk h0
      rw [hbb] at hab
      injection hab with hab
      subst hab
      rw [Addr.add_lit]
      exact hcell j u hj
    · have hq' := QR.of_own (own_mono hown hbase)
      refine h v' w' hq' ⟨hg.os, hg.tape, hg.output, hg.size, fun k hk _ => hg.block k hk (by simp)⟩ ?_
      obtain ⟨A', c', hv', _⟩ := own_any hown
      cases hA : v'.ownBlock with
      | none =>
        rcases hown.2 with ⟨_, h0⟩ | ⟨g, _, _, hv, _⟩
        · omega
        · rw [hv] at hA; cases hA
      | some g => exact .inr ⟨g, rfl, (hown.lt g hA).1⟩
end Go.Proofs.Ytmpeckjemgenbaa
