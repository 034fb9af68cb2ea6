/- A queue of pairs of words: cut in front, appended behind, also in a region that draws its order. -/
import Derived.Test.YtmpeckjemgenbaaQueue
import Derived.Test.YtmpeckjemgenbaaU64
import Derived.Deep.RegionLawGrows
namespace Go.Proofs.Ytmpeckjemgenbaa
open Go.RowKit
set_option linter.unusedVariables false
/-- one element more, as a step of a region that draws -/
theorem step_append_q {P : Program} {ops : Array Oper} {o : Oper} {a : Act} {w : World} {K : Act → World → Prop} {Q : Exit → Act → World → Prop} {E : Prop} (hgd : o.guard = none) (s x : Operand) (t : TypeId)
    (ho : o.op = .call { callee := .builtin .append, args := #[s, x], argTypes := #[t, t] }) (base : Nat) (e : TypeId) (i : TypeInfo) (z : Value) (sz bytes : Nat) (ht : P.underlying t = some (.slice e)) (hi : P.info? e = some i) (hz : i.zero = some z)
    (hsize : i.size = sz) (hby : i.bytes = bytes) (hzs : z.cells.size = sz) (hsz : 0 < sz) (v : Value) (n : Nat) (xs : List Value) (hs : a.eval s = v) (hq : QR w base e sz v n xs) (b : Nat) (news : List Value) (hx : a.eval x = .slice (some ⟨b, 0, none⟩) 1 1)
    (hl : news.length = sz) (hnews : ∀ j u, news[j]? = some u → w.cell? ((⟨b, 0, none⟩ : Addr).add j) = some u) (h1 : ∀ u ∈ news, u.oneCell' = true) (h63 : n + 1 ≤ maxLen) (hbytes : (n + 1) * bytes ≤ 140737488355328) (hbase : base ≤ w.heap.size)
    (h : ∀ v' w', QR w' base e sz v' (n + 1) (xs ++ news) → w.grownBy w' v.ownBlock → (v'.ownBlock = v.ownBlock ∨ ∃ g, v'.ownBlock = some g ∧ w.heap.size ≤ g ∧ g < w'.heap.size) → K (a.put o.dst v') w') :
    if Region.wanted o (yielded ops a.tmps) = true then Oper.wp P o a w K Q else E := by
  have hq0 := hq
  obtain ⟨hxl, ao, cap, rfl, h3, h4, h5, h6⟩ := hq
  by_cases hroom : n + 1 ≤ cap
  · obtain ⟨g, off, rfl, hgb, hlt, hcell, hfr, hsp⟩ := hq0.blk (by omega)
    have hm : (n + 1) * sz ≤ cap * sz := Nat.mul_le_mul_right _ hroom
    rw [Nat.succ_mul] at hm
    refine step_append_room hgd s x t ho e i sz ht hi hsize g off n cap hs ⟨b, 0, none⟩ 1 1 news hx (by rw [hl, Nat.one_mul]) hnews h1 hroom (fun j hj => ⟨by rw [Nat.add_assoc]; exact hsp _ (by omega), hfr _⟩) ?_
    obtain ⟨b', off', cur, hab, hb, hh, hss, hxx⟩ := h6 (by omega)
    injection hab with hab
    injection hab with e1 e2
    subst e1 e2
    have hblk : (w.setCells g (off + n * sz) news).heap[g]? = some (.cells (setRun cur (off + n * sz) news) e (0, 0)) := heap_setCells_run w g e news (off + n * sz) cur hh
    refine h _ _ ⟨by rw [List.length_append, hxl, hl, Nat.succ_mul], some ⟨g, off, none⟩, cap, rfl, hroom, h4, (fun hn => by cases hn), fun _ => ⟨g, off, _, rfl, hb, hblk, by rw [setRun_size]; exact hss, fun j hj => ?_⟩⟩ (grown_setCellsQ w g news _) (.inl rfl)
    rw [setRun_get _ _ _ (by omega)]
    by_cases hjn : j < n * sz
    · rw [if_neg (by omega), List.getElem?_append_left (by omega), hxx j hjn]
    · rw [Nat.succ_mul] at hj
      rw [if_pos (by omega), List.getElem?_append_right (by omega), hxl]
      congr 1
      omega
  · refine step_append_grows hgd s x t ho e i z sz bytes ht hi hz hsize hby hzs hsz ao n cap xs hs (fun hn => ⟨by have := h5 hn; omega, h5 hn⟩) hxl (fun bb hbb j u hj => ?_) ⟨b, 0, none⟩ 1 1 news hx (by rw [hl, Nat.one_mul]) hnews h1 (by omega) h63 hbytes (fun v' w' hown hg => ?_)
    · have h0 : 0 < cap := by
        rcases Nat.eq_zero_or_pos n with hn0 | hn0
        · subst hn0
          rw [List.getElem?_eq_none (by omega)] at hj; cases hj
        · omega
      obtain ⟨g, off, hab, _, _, hcell, _, _⟩ := hq0.blk h0
      rw [hbb] at hab
      injection hab with hab
      subst hab
      rw [Addr.add_lit]
      exact hcell j u hj
    · have hq' := QR.of_own (own_mono hown hbase)
      refine h v' w' hq' ⟨hg.os, hg.tape, hg.output, hg.size, fun k hk _ => hg.block k hk (by simp)⟩ ?_
      obtain ⟨A', c', hv', _⟩ := own_any hown
      cases hA : v'.ownBlock with
      | none =>
        rcases hown.2 with ⟨_, h0⟩ | ⟨g, _, _, hv, _⟩
        · omega
        · rw [hv] at hA; cases hA
      | some g => exact .inr ⟨g, rfl, (hown.lt g hA).1, (hown.lt g hA).2⟩
/-- a pair's cells -/
def pC (p : Nat × Nat) : List Value := [.int .u64 (p.1 : Int), .int .u64 (p.2 : Int)]
def encP : List (Nat × Nat) → List Value
  | [] => []
  | p :: l => pC p ++ encP l
theorem encP_append (l m : List (Nat × Nat)) : encP (l ++ m) = encP l ++ encP m := by
  induction l with
  | nil => rfl
  | cons p l ih => simp only [List.cons_append, encP, ih, List.append_assoc]
theorem encP_drop (p : Nat × Nat) (l : List (Nat × Nat)) : (encP (p :: l)).drop 2 = encP l := rfl
/-- a row of pairs of the call's own, from some place on -/
def QP (w : World) (base : Nat) (v : Value) (l : List (Nat × Nat)) : Prop := QR w base 81 2 v l.length (encP l) ∧ ∀ k, v.ownBlock = some k → base ≤ k ∧ k < w.heap.size
theorem infoP : (Try.prog.info? 81).map (fun i => (i.zero, i.size, i.bytes)) = some (some (.agg #[.int .u64 0, .int .u64 0]), 2, 16) := by kernel_rfl
theorem sizePs (w : World) : (sizeOf (Try.prog.elem 79)).run Try.prog w = .ok 2 w := by kernel_rfl
theorem elemPs : Try.prog.underlying 79 = some (.slice (Try.prog.elem 79)) := by kernel_rfl
theorem QP.nil (w : World) (base : Nat) : QP w base (.slice none 0 0) [] := ⟨⟨rfl, none, 0, rfl, Nat.le_refl _, by omega, fun _ => rfl, fun h => by omega⟩, fun k h => by cases h⟩
theorem QP.grown {w w' : World} {base : Nat} {v : Value} {l : List (Nat × Nat)} {row : Option Nat} (h : QP w base v l) (hg : w.grownBy w' row) (hne : ∀ k, v.ownBlock = some k → row ≠ some k) : QP w' base v l := ⟨QR.grown h.1 hg hne, fun k hk => ⟨(h.2 k hk).1, Nat.lt_of_lt_of_le (h.2 k hk).2 hg.size⟩⟩
theorem QP.below {w w' : World} {base : Nat} {v : Value} {l : List (Nat × Nat)} (h : QP w base v l) (hb : Below w.heap.size w w') : QP w' base v l := ⟨QR.below h.1 hb, fun k hk => ⟨(h.2 k hk).1, Nat.lt_of_lt_of_le (h.2 k hk).2 hb.size⟩⟩
theorem QP.form {w : World} {base : Nat} {v : Value} {l : List (Nat × Nat)} (h : QP w base v l) : ∃ ao cap, v = .slice ao l.length cap ∧ l.length ≤ cap ∧ cap ≤ 9223372036854775807 := QR.form h.1
theorem QP.snoc {w w' : World} {base : Nat} {v v' : Value} {l : List (Nat × Nat)} {p : Nat × Nat} (h : QP w base v l) (hq : QR w' base 81 2 v' (l.length + 1) (encP l ++ pC p)) (hg : w.grownBy w' v.ownBlock) (hat : v'.ownBlock = v.ownBlock ∨ ∃ g, v'.ownBlock = some g ∧ w.heap.size ≤ g ∧ g < w'.heap.size) (hb : base ≤ w.heap.size) : QP w' base v' (l ++ [p]) := by
  refine ⟨?_, fun k hk => ?_⟩
  · have e : encP (l ++ [p]) = encP l ++ pC p := by rw [encP_append]; simp [encP]
    rw [List.length_append, e]
    exact hq
  · rcases hat with ha | ⟨g, ha, h1, h2⟩
    · rw [ha] at hk
      exact ⟨(h.2 k hk).1, Nat.lt_of_lt_of_le (h.2 k hk).2 hg.size⟩
    · rw [ha] at hk
      injection hk with hk
      subst hk
      exact ⟨Nat.le_trans hb h1, h2⟩
/-- the first pair, and the rest -/
theorem QP.head {w : World} {base : Nat} {ao : Option Addr} {cap n : Nat} {p : Nat × Nat} {l : List (Nat × Nat)} (h : QP w base (.slice ao n cap) (p :: l)) : ∃ b off, ao = some ⟨b, off, none⟩ ∧ base ≤ b ∧ b < w.heap.size ∧ w.cell? ⟨b, off, none⟩ = some (.int .u64 (p.1 : Int)) ∧ w.cell? ⟨b, off + 1, none⟩ = some (.int .u64 (p.2 : Int)) ∧
    ∃ A, (∀ w', (Instr.sliceAt 79 (.slice ao n cap) (some (.int .i64 1)) none none).run Try.prog w' = .ok (.slice A l.length (cap - 1)) w') ∧ QP w base (.slice A l.length (cap - 1)) l ∧ (Value.slice A l.length (cap - 1)).ownBlock = some b := by
  have h' : QR w base 81 2 (.slice ao n cap) (p :: l).length (encP (p :: l)) := h.1
  obtain ⟨ao', cap', hv, hle, hm⟩ := h.form
  injection hv with e1 e2 e3
  subst e1 e2 e3
  have hc : 0 < cap := by simp at hle; omega
  obtain ⟨b, off, rfl, hb, hlt, hcell, _, _⟩ := h'.blk hc
  have hown : ∀ A : Option Addr, A = (if cap = 1 then some ⟨b, off, none⟩ else some ⟨b, off + 2, none⟩) → (Value.slice A l.length (cap - 1)).ownBlock = some b := fun A hA => by
    subst hA
    split <;> rfl
  refine ⟨b, off, rfl, hb, hlt, by simpa using hcell 0 _ rfl, by simpa using hcell 1 _ rfl, if cap = 1 then some ⟨b, off, none⟩ else some ⟨b, off + 2, none⟩, fun w' => ?_, ⟨?_, ?_⟩, ?_⟩
  · rw [run_sliceAt_slice _ _ _ _ _ _ elemPs, run_slice_l _ _ _ _ _ elemPs _ _ (by omega) (by simp at hle ⊢; omega), sizePs]
    simp only [Result.andThen, sliced]
    rfl
  · exact QR.tail h' _ rfl
  · intro k hk
    rw [hown _ rfl] at hk
    injection hk with hk
    subst hk
    exact ⟨hb, hlt⟩
  · exact hown _ rfl
end Go.Proofs.Ytmpeckjemgenbaa
