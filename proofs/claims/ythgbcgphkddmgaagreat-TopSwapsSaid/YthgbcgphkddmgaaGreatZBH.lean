/- A line's end: Put. A line's end: Put, the walk. A line's end: a packet. A line's end: Out. A line's end: Tick. -/
import Derived.Test.YthgbcgphkddmgaaGreatZBG
import Derived.Deep.Onto
namespace Go.Proofs.YthgbcgphkddmgaaGreat
open Go.RowKit
set_option linter.unusedVariables false
set_option linter.unusedSimpArgs false
theorem flatC_ext {f g : Nat → List Value} : ∀ n, (∀ j, j < n → f j = g j) → flatC f n = flatC g n
  | 0, _ => rfl
  | n + 1, h => by rw [flatC, flatC, flatC_ext n (fun j hj => h j (by omega)), h n (by omega)]
def eoAdd (e : EnS) (x : FL) : EnS := { e with out := e.out ++ [(x, false)] }
theorem eoN_old {l : List (FL × Bool)} {y : FL × Bool} {j : Nat} (h : j < l.length) : eoN (l ++ [y]) j = eoN l j := by
  unfold eoN
  rw [List.getD_eq_getElem?_getD, List.getElem?_append_left h, ← List.getD_eq_getElem?_getD]
theorem eoN_new {l : List (FL × Bool)} {y : FL × Bool} : eoN (l ++ [y]) l.length = y := by
  unfold eoN
  rw [List.getD_eq_getElem?_getD, List.getElem?_append_right (Nat.le_refl _)]
  simp
theorem EndG.put {w w5 : World} {q B nb : Nat} {Bd : Nat → Prop} {vo vo' vi vx : Value} {V U : Nat → Value} {e : EnS} {x : FL} (h : EndG w q B Bd vo vi V U e) (hf : Fr (fun k => vo.ownBlock = some k) w w5)
    (hr : w5.ownsRow B 190 2 vo' (e.out.length + 1) (flatC (pdC e.out V) e.out.length ++ [vx, .bool false])) (hh : vo'.ownBlock = vo.ownBlock ∨ ∃ g, vo'.ownBlock = some g ∧ w.heap.size ≤ g)
    (hx : BodyIn w5 (fun k => k = nb) vx x.enc) (hn : w.heap.size ≤ nb) (hne : vo'.ownBlock ≠ some nb) (h8 : e.out.length < 8) :
    EndG (w5.setCell ⟨q, 4, none⟩ vo') q B (fun k => Bd k ∨ k = nb) vo' vi (fun j => if j = e.out.length then vx else V j) U (eoAdd e x) ∧ Fr (fun k => k = q ∨ vo.ownBlock = some k) w (w5.setCell ⟨q, 4, none⟩ vo') := by
  have hq : ¬ vo.ownBlock = some q := fun h' => (h.ap.1 q h').1 rfl
  have hlt := h.lt
  have hqn : q ≠ nb := by omega
  have hf6 : Fr (fun k => k = q ∨ vo.ownBlock = some k) w (w5.setCell ⟨q, 4, none⟩ vo') := (hf.weak (S2 := fun k => k = q ∨ vo.ownBlock = some k) (fun _ h => .inr h)).set (.inl (.inl rfl)) vo'
  have hs5 : Fr (fun k => k = q) w5 (w5.setCell ⟨q, 4, none⟩ vo') := Fr.setAt (Fr.refl _ w5) vo'
  have hil : ∀ k, vi.ownBlock = some k → k < w.heap.size := fun k hk => (World.ownsRow.lt h.ri k hk).2
  have hbl : ∀ j, j < e.out.length → BodyIn (w5.setCell ⟨q, 4, none⟩ vo') (fun k => Bd k ∨ k = nb) (V j) (eoN e.out j).1.enc := fun j hj => (h.bo j hj).fr hf6 (fun k hk hd => by
    rcases hd with hd | hd
    · exact (h.no k hk).1 hd
    · exact (h.no k hk).2.1 hd) (fun _ h _ => .inl h)
  have e1 : (eoAdd e x).out.length = e.out.length + 1 := by simp [eoAdd]
  refine ⟨⟨set_other (hf.cell h.c0 hq) (by decide), set_other (hf.cell h.c1 hq) (by decide), set_other (hf.cell h.c2 hq) (by decide), set_other (hf.cell h.c3 hq) (by decide), set_this (hf.cell h.c4 hq), set_other (hf.cell h.c5 hq) (by decide), set_other (hf.cell h.c6 hq) (by decide), set_fz (fun o => (hf.frozen hlt hq).trans (h.fz o)), ?_, hf6.row h.ri (fun k hk hd => ?_), fun j hj => ?_, fun j hj => (h.bi j hj).fr hf6 (fun k hk hd => ?_) (fun _ h _ => .inl h), ⟨fun k hk => ⟨?_, fun hi => ?_⟩, h.ap.2⟩, fun k hk => ⟨?_, ?_, fun hi => ?_⟩, fun k hk => ?_, ⟨h.sz.1, h.sz.2.1, h.sz.2.2.1, by rw [e1]; omega, h.sz.2.2.2.2⟩⟩, hf6⟩
  · rw [e1]
    have : flatC (pdC (eoAdd e x).out fun j => if j = e.out.length then vx else V j) (e.out.length + 1) = flatC (pdC e.out V) e.out.length ++ [vx, .bool false] := by
      rw [flatC]
      congr 1
      · refine flatC_ext _ (fun j hj => ?_)
        show [if j = e.out.length then vx else V j, Value.bool (eoN (e.out ++ [(x, false)]) j).2] = [V j, Value.bool (eoN e.out j).2]
        rw [if_neg (by omega), eoN_old hj]
      · show [if e.out.length = e.out.length then vx else V e.out.length, Value.bool (eoN (e.out ++ [(x, false)]) e.out.length).2] = [vx, .bool false]
        rw [if_pos rfl, eoN_new]
    rw [this]
    refine Fr.row (S := fun k => k = q) hs5 hr (fun k hk hd => ?_)
    have hd' : k = q := hd
    rcases hh with h1 | ⟨g, h1, h2⟩
    · exact hq (by rw [← h1, hk, hd'])
    · rw [h1] at hk; injection hk with hk; omega
  · rcases hd with hd | hd
    · exact h.ap.2 k hk hd
    · exact (h.ap.1 k hd).2 hk
  · rw [e1] at hj
    by_cases he : j = e.out.length
    · rw [if_pos he]
      subst he
      unfold eoAdd
      rw [eoN_new]
      exact hx.fr (D := fun k => k = q) hs5 (fun k hk hd => hqn (hd.symm.trans hk)) (fun _ h _ => .inr h)
    · rw [if_neg he]
      unfold eoAdd
      rw [eoN_old (by omega)]
      exact hbl j (by omega)
  · rcases hd with hd | hd
    · exact (h.no k hk).1 hd
    · exact (h.no k hk).2.1 hd
  · rcases hh with h1 | ⟨g, h1, h2⟩
    · exact (h.ap.1 k (h1.symm.trans hk)).1
    · rw [h1] at hk; injection hk with hk; omega
  · rcases hh with h1 | ⟨g, h1, h2⟩
    · exact (h.ap.1 k (h1.symm.trans hk)).2 hi
    · rw [h1] at hk; injection hk with hk; have := hil k hi; omega
  · rcases hk with hk | hk
    · exact (h.no k hk).1
    · omega
  · rcases hk with hk | hk
    · intro h2
      rcases hh with h1 | ⟨g, h1, h3⟩
      · exact (h.no k hk).2.1 (h1.symm.trans h2)
      · rw [h1] at h2; injection h2 with h2
        have : k < w.heap.size := h.bdlt k hk
        omega
    · exact hk ▸ hne
  · rcases hk with hk | hk
    · exact (h.no k hk).2.2 hi
    · have := hil k hi; omega
  · rcases hk with hk | hk
    · exact Nat.lt_of_lt_of_le (h.bdlt k hk) hf6.size
    · obtain ⟨A, c, -, -, -, h3⟩ := hx
      obtain ⟨b, off, -, hb, hbn, -⟩ := h3 x.enc_len.1
      have := hs5.size
      have hbn' : b = nb := hbn
      omega
end Go.Proofs.YthgbcgphkddmgaaGreat
namespace Go.Proofs.YthgbcgphkddmgaaGreat
open Go.RowKit
set_option linter.unusedVariables false
set_option linter.unusedSimpArgs false
def EPutPost (w : World) (q B : Nat) (Bd : Nat → Prop) (vo vi : Value) (V U : Nat → Value) (e : EnS) (x : FL) (r : Ending) (w' : World) : Prop :=
  r = .returned (.int .i64 0) ∧ ∃ vo' V' nb, EndG w' q B (fun k => Bd k ∨ k = nb) vo' vi V' U (eoAdd e x) ∧ Fr (fun k => k = q ∨ vo.ownBlock = some k) w w' ∧ w.heap.size ≤ nb ∧ nb < w'.heap.size ∧ (vo'.ownBlock = vo.ownBlock ∨ ∃ g, vo'.ownBlock = some g ∧ w.heap.size ≤ g)
theorem own_info {w : World} {base : Nat} {v : Value} {l : List Nat} (h : OwnB w base v l) (h0 : 0 < l.length) : ∃ g, v.ownBlock = some g ∧ base ≤ g ∧ g < w.heap.size := by
  obtain ⟨g, cap, hv, hg, hlt, -⟩ := own_form h h0
  subst hv
  exact ⟨g, rfl, hg, hlt⟩
set_option maxRecDepth 100000 in
set_option maxHeartbeats 4000000 in
theorem eput_any {w : World} {q B : Nat} {Bd Bv : Nat → Prop} {vo vi v : Value} {V U : Nat → Value} {e : EnS} {x : FL} (h : EndG w q B Bd vo vi V U e) (h8 : e.out.length < 8) (hv : BodyIn w Bv v x.enc) (hB : B ≤ w.heap.size) :
    Calls Tryz.prog 124 #[.pointer (some ⟨q, 0, none⟩), v] w (EPutPost w q B Bd vo vi V U e x) := by
  have hlen := x.enc_len
  have HCL := Lib.hid (show ∀ W, Fr (fun _ => False) w W → Calls Tryz.prog 144 #[v] W fun r w1 => ∃ v1, r = .returned v1 ∧ OwnB w1 w.heap.size v1 x.enc ∧ Fr (fun _ => False) w w1 from fun W hW => (clone_body (hv.fr (Bd' := Bv) hW (fun _ _ h => h) (fun _ h _ => h)) (by omega)).mono (by
    rintro r w1 ⟨v1, h1, h2, h3⟩
    exact ⟨v1, h1, World.ownsRow.mono h2 hW.size, hW.trans' h3⟩))
  obtain ⟨A, c, rfl, -, -, -⟩ := hv
  have c0 := h.c0
  have c4 := h.c4
  have fz := h.fz
  have hlt := h.lt
  obtain ⟨Ao, co, rfl, -, -, -⟩ := own_any h.ro
  have HH := Lib.hid h
  obtain ⟨n, hn⟩ : ∃ n, e.out.length = n := ⟨_, rfl⟩
  have HN := Lib.hid hn
  rw [hn] at c4 h8
  have HQV := Lib.hid (show ∀ k, (Value.slice Ao n co).ownBlock = some k → k ≠ q from fun k hk => (h.ap.1 k (by rw [hn]; exact hk)).1)
  have HRO := Lib.hid (show w.ownsRow B 190 2 (.slice Ao n co) n (flatC (pdC e.out V) n) by have := h.ro; rw [hn] at this; exact this)
  obtain ⟨i0, hi0, z0, z1, z2⟩ := info_parts infoPd
  clear h hn
  go_enter Tryz.func124, Tryz.ntmps124
  rw [HN.out]
  have hd : decide (((x.enc.length : Nat) : Int) > 1048576) = false := decide_eq_false (by omega)
  have hd2 : ((n : Int) == 8) = false := by simp; omega
  go_wp2_with fail
  go_region
  go_wp2_with fail
  go_region_law
    (first
      | (refine step_call1 (by rfl) 144 (fun _ _ => by kernel_rfl) _ _ (by rfl) (.slice A x.enc.length c) (by first | (simp [Act.eval]; done) | simp [Act.eval, Act.put]) (HCL.out _ (by first | exact (Fr.refl _ w).drew.drew | exact (Fr.refl _ w).drew)) ?_; rintro e1 w1 ⟨v1, rfl, ho1, hf1⟩; refine ⟨v1, rfl, ?_⟩; obtain ⟨A1, c1, rfl, -, -, -⟩ := own_any ho1; have HO1 := Lib.hid ho1; have HF1 := Lib.hid hf1; have HR1 := Lib.hid (hf1.row HRO.out (fun _ _ h => h)); have k4 := hf1.cell c4 (fun h => h); have kl := Nat.lt_of_lt_of_le hlt hf1.size; have kb := Nat.le_trans hB hf1.size; clear ho1 hf1)
      | (refine step_append_lies _ (by rfl) _ _ _ (by rfl) B 190 i0 _ 2 32 Tryz.underlying136 hi0 z0 z1 z2 rfl (by omega) (.slice Ao n co) n (flatC (pdC e.out V) n) (by rfl) (HR1.out.alloc _) ⟨w1.heap.size, 0, none⟩ 1 1 [.slice A1 x.enc.length c1, .bool false] (by rfl) (by rfl) (cell_newL _ _ _ _ rfl) (by intro u hu; simp at hu; rcases hu with rfl | rfl <;> rfl) (by omega) (by unfold maxLen; omega) (by omega) (by simp; omega) (w1.heap.size + 1) (by simp) ?_; intro g cap w5 hown5 hgrow5 hat5 hlt5; have HF5 := Lib.hid (show Fr (fun k => (Value.slice Ao n co).ownBlock = some k) w w5 from ((HF1.out.weak (S2 := fun k => (Value.slice Ao n co).ownBlock = some k) (fun _ h => h.elim)).alloc _).trans' (Fr.of_grown hgrow5 (fun b hb => .inl hb))); have HG5 := Lib.hid hgrow5; have HO5 := Lib.hid hown5; have HA5 := Lib.hid hat5; have x4 := HF5.out.cell c4 (fun e => HQV.out q e rfl); have xf := (HF5.out.frozen (o := 4) hlt (fun e => HQV.out q e rfl)).trans (fz 4); clear hown5 hgrow5 hat5))
  all_goals
    have HFIN := Lib.hid (show ∃ V' nb, EndG (w5.setCell ⟨q, 4, none⟩ (.slice (some ⟨g, 0, none⟩) (n + 1) cap)) q B (fun k => Bd k ∨ k = nb) (.slice (some ⟨g, 0, none⟩) (n + 1) cap) vi V' U (eoAdd e x) ∧ Fr (fun k => k = q ∨ (Value.slice Ao n co).ownBlock = some k) w (w5.setCell ⟨q, 4, none⟩ (.slice (some ⟨g, 0, none⟩) (n + 1) cap)) ∧ w.heap.size ≤ nb ∧ nb < w5.heap.size ∧ ((some g : Option Nat) = (Value.slice Ao n co).ownBlock ∨ ∃ g', (some g : Option Nat) = some g' ∧ w.heap.size ≤ g') by
      obtain ⟨g1, e1, hg1, hl1⟩ := own_info HO1.out hlen.1
      have hol : ∀ k, (Value.slice Ao n co).ownBlock = some k → k < w.heap.size := fun k hk => (World.ownsRow.lt HRO.out k hk).2
      have h15 : Fr (fun k => (Value.slice Ao n co).ownBlock = some k) w1 w5 := ((Fr.refl _ w1).alloc _).trans' (Fr.of_grown HG5.out (fun b hb => .inl hb))
      have hz1 := HF1.out.size
      have hat : (some g : Option Nat) = (Value.slice Ao n co).ownBlock ∨ ∃ g', (some g : Option Nat) = some g' ∧ w.heap.size ≤ g' := by
        rcases HA5.out with h | h
        · exact .inl h.symm
        · exact .inr ⟨g, rfl, by omega⟩
      have hb1 : BodyIn w1 (fun k => k = g1) (.slice A1 x.enc.length c1) x.enc := body_of_own HO1.out _ (fun k hk => by rw [e1] at hk; injection hk with hk; exact hk.symm)
      have hp := (show EndG w q B Bd (.slice Ao n co) vi V U e by have := HH.out; rw [HN.out] at this; exact this).put (x := x) HF5.out (vo' := .slice (some ⟨g, 0, none⟩) (n + 1) cap) (by rw [HN.out]; exact HO5.out) hat (hb1.fr h15 (fun k hk hd => by
        have hk' : k = g1 := hk
        have := hol k hd
        omega) (fun _ h _ => h)) hg1 (fun e => by
        have e' : g = g1 := by injection e
        rcases HA5.out with h | h
        · have := hol g h; omega
        · omega) (by rw [HN.out]; exact h8)
      exact ⟨_, g1, hp.1, hp.2, hg1, Nat.lt_of_lt_of_le hl1 h15.size, hat⟩)
    obtain ⟨W6, hW6⟩ : ∃ W6, W6 = w5.setCell ⟨q, 4, none⟩ (.slice (some ⟨g, 0, none⟩) (n + 1) cap) := ⟨_, rfl⟩
    rw [← hW6] at HFIN
    have HW6 := Lib.hid hW6
    have hz6 : W6.heap.size = w5.heap.size := by rw [hW6]; simp
    clear hW6
    go_wp2_with fail
    rw [← HW6.out]
    go_ret
    obtain ⟨V', nb, h1, h2, h3, h4, h5⟩ := HFIN.out
    exact ⟨rfl, _, V', nb, h1, h2, h3, by omega, h5⟩
end Go.Proofs.YthgbcgphkddmgaaGreat
namespace Go.Proofs.YthgbcgphkddmgaaGreat
open Go.RowKit
set_option linter.unusedVariables false
set_option linter.unusedSimpArgs false
structure PK where
  seq : Nat
  ack : Nat
  win : Nat
  body : Option FL
def pkV (p : PK) (v : Value) : List Value := [.int .u32 (p.seq : Int), .int .u32 (p.ack : Int), .bool p.body.isSome, .int .i64 (p.win : Int), v]
def EnS.pk (e : EnS) (i : Nat) (b : Option FL) : PK := ⟨e.base + i, e.want, 8 - e.inn.length, b⟩
set_option maxRecDepth 100000 in
set_option maxHeartbeats 4000000 in
theorem epacket_any {w : World} {q B : Nat} {Bd : Nat → Prop} {vo vi : Value} {V U : Nat → Value} {e : EnS} (h : EndG w q B Bd vo vi V U e) {i : Nat} (hi : i ≤ 8) :
    Calls Tryz.prog 169 #[.pointer (some ⟨q, 0, none⟩), .int .i64 (i : Int)] w fun r w' => r = .returned (.agg #[.int .u32 ((e.base + i : Nat) : Int), .int .u32 (e.want : Int), .bool false, .int .i64 ((8 - e.inn.length : Nat) : Int), .slice none 0 0]) ∧ Fr (fun _ => False) w w' := by
  have c0 := h.c0
  have c2 := h.c2
  have c3 := h.c3
  have c5 := h.c5
  have hlt := h.lt
  obtain ⟨hs1, hs2, hs3, hs4, hs5⟩ := h.sz
  obtain ⟨Ai, ci, rfl, -, -, -⟩ := own_any h.ri
  obtain ⟨n, hn⟩ : ∃ n, e.inn.length = n := ⟨_, rfl⟩
  rw [hn] at c5 hs5 ⊢
  obtain ⟨b, hb⟩ : ∃ b, e.base = b := ⟨_, rfl⟩
  rw [hb] at c2 hs2 ⊢
  obtain ⟨a, ha⟩ : ∃ a, e.want = a := ⟨_, rfl⟩
  rw [ha] at c3 hs3 ⊢
  have f1 : (i : Int) % 4294967296 = (i : Int) := by omega
  have f2 : ((b : Int) + (i : Int)) % 4294967296 = (b : Int) + (i : Int) := by omega
  have f3 : wrap64 (8 - (n : Int)) = ((8 - n : Nat) : Int) := by unfold wrap64; omega
  have HFF := Lib.hid (show (b : Int) + (i : Int) = ((b + i : Nat) : Int) ∧ 8 - (n : Int) = ((8 - n : Nat) : Int) by omega)
  clear h hn hb ha
  go_enter Tryz.func169, Tryz.ntmps169
  go_wp2_with fail
  go_region
  all_goals
    go_wp2_with fail
    refine bodyPost_ret (v := .agg #[.int .u32 ((b : Int) + (i : Int)), .int .u32 (a : Int), .bool false, .int .i64 (8 - (n : Int)), .slice none 0 0]) (by simp [results, Tryz.results169, go_sem]) rfl ⟨?_, ((Fr.refl _ w).alloc _).drew⟩
    rw [HFF.out.1, HFF.out.2]
theorem infoPk : (Tryz.prog.info? 124).map (fun i => (i.zero, i.size, i.bytes)) = some (some (.agg #[.int .u32 0, .int .u32 0, .bool false, .int .i64 0, .slice none 0 0]), 5, 48) := by kernel_rfl
def zPK : PK := ⟨0, 0, 0, none⟩
def pkN (l : List PK) (j : Nat) : PK := l.getD j zPK
def pkC (l : List PK) (W : Nat → Value) (j : Nat) : List Value := pkV (pkN l j) (W j)
def PkBody (w : World) (Bd : Nat → Prop) (v : Value) : Option FL → Prop
  | none => v = .slice none 0 0
  | some x => BodyIn w Bd v x.enc
theorem PkBody.fr {w w' : World} {D Bd Bd' : Nat → Prop} {v : Value} {b : Option FL} (h : PkBody w Bd v b) (hf : Fr D w w') (hD : ∀ k, Bd k → ¬ D k) (hB : ∀ k, Bd k → k < w.heap.size → Bd' k) : PkBody w' Bd' v b := by
  cases b with
  | none => exact h
  | some x => exact BodyIn.fr h hf hD hB
/-- a row of packets; their bodies lie in Bd -/
def PkR (w : World) (base : Nat) (Bd : Nat → Prop) (v : Value) (l : List PK) : Prop :=
  ∃ W, w.ownsRow base 124 5 v l.length (flatC (pkC l W) l.length) ∧ ∀ j, j < l.length → PkBody w Bd (W j) (pkN l j).body
theorem PkR.nil (w : World) (base : Nat) (Bd : Nat → Prop) : PkR w base Bd (.slice none 0 0) [] := ⟨fun _ => .slice none 0 0, by
  have := World.ownsRow_nil w base 124 5
  simpa [flatC] using this, fun j hj => by cases hj⟩
theorem pkN_old {l : List PK} {y : PK} {j : Nat} (h : j < l.length) : pkN (l ++ [y]) j = pkN l j := by
  unfold pkN
  rw [List.getD_eq_getElem?_getD, List.getElem?_append_left h, ← List.getD_eq_getElem?_getD]
theorem pkN_new {l : List PK} {y : PK} : pkN (l ++ [y]) l.length = y := by
  unfold pkN
  rw [List.getD_eq_getElem?_getD, List.getElem?_append_right (Nat.le_refl _)]
  simp
theorem PkR.snoc {w w' : World} {D : Nat → Prop} {base : Nat} {Bd Bd' : Nat → Prop} {v v' u : Value} {l : List PK} {y : PK} {W : Nat → Value} (h : ∀ j, j < l.length → PkBody w Bd (W j) (pkN l j).body) (hf : Fr D w w') (hr : w'.ownsRow base 124 5 v' (l.length + 1) (flatC (pkC l W) l.length ++ pkV y u)) (hD : ∀ k, Bd k → ¬ D k) (hB : ∀ k, Bd k → k < w.heap.size → Bd' k) (hu : PkBody w' Bd' u y.body) : PkR w' base Bd' v' (l ++ [y]) := by
  refine ⟨fun j => if j = l.length then u else W j, ?_, fun j hj => ?_⟩
  · have e1 : (l ++ [y]).length = l.length + 1 := by simp
    rw [e1]
    have : flatC (pkC (l ++ [y]) fun j => if j = l.length then u else W j) (l.length + 1) = flatC (pkC l W) l.length ++ pkV y u := by
      rw [flatC]
      congr 1
      · refine flatC_ext _ (fun j hj => ?_)
        show pkV (pkN (l ++ [y]) j) (if j = l.length then u else W j) = pkV (pkN l j) (W j)
        rw [if_neg (by omega), pkN_old hj]
      · show pkV (pkN (l ++ [y]) l.length) (if l.length = l.length then u else W l.length) = pkV y u
        rw [if_pos rfl, pkN_new]
    rw [this]
    exact hr
  · rw [List.length_append] at hj
    have hj' : j < l.length + 1 := hj
    show PkBody w' Bd' (if j = l.length then u else W j) (pkN (l ++ [y]) j).body
    by_cases e : j = l.length
    · rw [if_pos e]
      subst e
      rw [pkN_new]
      exact hu
    · rw [if_neg e, pkN_old (by omega)]
      exact (h j (by omega)).fr hf hD hB
/-- the first k are sent -/
def sentTo : Nat → List (FL × Bool) → List (FL × Bool)
  | 0, l => l
  | _ + 1, [] => []
  | k + 1, x :: l => (x.1, true) :: sentTo k l
theorem sentTo_len : ∀ (k : Nat) (l : List (FL × Bool)), (sentTo k l).length = l.length
  | 0, _ => rfl
  | _ + 1, [] => rfl
  | k + 1, x :: l => by simp [sentTo, sentTo_len k l]
theorem sentTo_get : ∀ (k : Nat) (l : List (FL × Bool)) (j : Nat), j < l.length → eoN (sentTo k l) j = ((eoN l j).1, (eoN l j).2 || decide (j < k))
  | 0, l, j, _ => by simp [sentTo]
  | k + 1, [], j, h => by cases h
  | k + 1, x :: l, 0, _ => by simp [sentTo, eoN]
  | k + 1, x :: l, j + 1, h => by
    have := sentTo_get k l j (by simpa using h)
    unfold eoN at this ⊢
    simp only [sentTo, List.getD_cons_succ]
    rw [this]
    simp
def EnS.sent (e : EnS) (k : Nat) : EnS := { e with out := sentTo k e.out }
/-- the packets of the first k bodies that were not sent -/
def EnS.news (e : EnS) : Nat → List PK
  | 0 => []
  | k + 1 => e.news k ++ if (eoN e.out k).2 then [] else [e.pk k (some (eoN e.out k).1)]
theorem EnS.news_len (e : EnS) : ∀ k, (e.news k).length ≤ k
  | 0 => Nat.le_refl _
  | k + 1 => by
    have := e.news_len k
    unfold EnS.news
    rw [List.length_append]
    split <;> simp <;> omega
theorem sentTo_same : ∀ (k : Nat) (l : List (FL × Bool)), k < l.length → (eoN l k).2 = true → sentTo (k + 1) l = sentTo k l
  | 0, x :: l, _, h => by
    have h' : x.2 = true := by simpa [eoN] using h
    show (x.1, true) :: l = x :: l
    rw [← h']
  | k + 1, x :: l, hk, h => by
    have := sentTo_same k l (by simpa using hk) (by simpa [eoN] using h)
    show (x.1, true) :: sentTo (k + 1) l = (x.1, true) :: sentTo k l
    rw [this]
theorem EndG.flag {w : World} {q B k g cap n : Nat} {Bd : Nat → Prop} {vi : Value} {V U : Nat → Value} {e : EnS} (h : EndG w q B Bd (.slice (some ⟨g, 0, none⟩) n cap) vi V U (e.sent k)) (hn : e.out.length = n) (hk : k < n) :
    EndG (w.setCell ⟨g, k * 2 + 1, none⟩ (.bool true)) q B Bd (.slice (some ⟨g, 0, none⟩) n cap) vi V U (e.sent (k + 1)) ∧ Fr (fun b => b = g) w (w.setCell ⟨g, k * 2 + 1, none⟩ (.bool true)) := by
  have hf : Fr (fun b => b = g) w (w.setCell ⟨g, k * 2 + 1, none⟩ (.bool true)) := Fr.setAt (Fr.refl _ w) _
  have hq : ¬ q = g := fun e2 => (h.ap.1 g rfl).1 e2.symm
  have hl : (e.sent k).out.length = n := by show (sentTo k e.out).length = n; rw [sentTo_len, hn]
  have hl1 : (e.sent (k + 1)).out.length = n := by show (sentTo (k + 1) e.out).length = n; rw [sentTo_len, hn]
  have hb : ∀ b, Bd b → ¬ b = g := fun b hb e2 => (h.no b hb).2.1 (by rw [e2]; rfl)
  have hs : ∀ j, j < n → (eoN (e.sent (k + 1)).out j).1 = (eoN (e.sent k).out j).1 := fun j hj => by
    show (eoN (sentTo (k + 1) e.out) j).1 = (eoN (sentTo k e.out) j).1
    rw [sentTo_get _ _ _ (by omega), sentTo_get _ _ _ (by omega)]
  have hro := h.ro
  rw [hl] at hro
  have h1 := (hro.stored (k * 2 + 1) (.bool true)).1
  rw [flatC_set (sz := 2) (fun _ => rfl) (by omega)] at h1
  refine ⟨⟨hf.cell h.c0 hq, hf.cell h.c1 hq, hf.cell h.c2 hq, hf.cell h.c3 hq, hf.cell h.c4 hq, hf.cell h.c5 hq, hf.cell h.c6 hq, fun o => (hf.frozen h.lt hq).trans (h.fz o), ?_, hf.row h.ri (fun b hb e2 => (h.ap.1 g rfl).2 (by rw [← e2]; exact hb)), fun j hj => ?_, fun j hj => (h.bi j hj).fr hf hb (fun _ h _ => h), h.ap, h.no, fun b hb => Nat.lt_of_lt_of_le (h.bdlt b hb) hf.size, ?_⟩, hf⟩
  · rw [hl1]
    refine (congrArg (fun z => World.ownsRow _ _ _ _ _ _ z) (flatC_ext n (fun j hj => ?_))).mp h1
    have e1 : pdC (e.sent (k + 1)).out V j = [V j, .bool ((eoN e.out j).2 || decide (j < k + 1))] := by
      show [V j, Value.bool (eoN (sentTo (k + 1) e.out) j).2] = _
      rw [sentTo_get _ _ _ (by omega)]
    have e2 : pdC (e.sent k).out V j = [V j, .bool ((eoN e.out j).2 || decide (j < k))] := by
      show [V j, Value.bool (eoN (sentTo k e.out) j).2] = _
      rw [sentTo_get _ _ _ (by omega)]
    unfold updC
    by_cases e3 : j = k
    · subst e3
      rw [if_pos rfl, e1]
      have : decide (j < j + 1) = true := decide_eq_true (by omega)
      rw [this, Bool.or_true]
      rfl
    · rw [if_neg e3, e1, e2]
      have : decide (j < k + 1) = decide (j < k) := decide_eq_decide.2 (by omega)
      rw [this]
  · rw [hl1] at hj
    rw [hs j hj]
    exact (h.bo j (by omega)).fr hf hb (fun _ h _ => h)
  · have := h.sz
    refine ⟨this.1, this.2.1, this.2.2.1, ?_, this.2.2.2.2⟩
    have := this.2.2.2.1
    omega
end Go.Proofs.YthgbcgphkddmgaaGreat
namespace Go.Proofs.YthgbcgphkddmgaaGreat
open Go.RowKit
set_option linter.unusedVariables false
set_option linter.unusedSimpArgs false
def EnS.top (e : EnS) : Nat := min e.lim e.out.length
def EnS.outs (e : EnS) : List PK := if e.news e.top = [] ∧ e.due = true then [e.pk e.out.length none] else e.news e.top
def EnS.outE (e : EnS) : EnS := { (e.sent e.top) with due := false }
def EOutPost (w : World) (q B : Nat) (Bd : Nat → Prop) (vo vi : Value) (V U : Nat → Value) (e : EnS) (r : Ending) (w' : World) : Prop :=
  ∃ v, r = .returned v ∧ PkR w' w.heap.size (fun k => w.heap.size ≤ k ∧ k < w'.heap.size ∧ v.ownBlock ≠ some k) v e.outs ∧ EndG w' q B Bd vo vi V U e.outE ∧ Fr (fun k => k = q ∨ vo.ownBlock = some k) w w'
/-- the packets so far -/
structure EoQ (w : World) (q B : Nat) (Bd : Nat → Prop) (vo vi : Value) (V U : Nat → Value) (e : EnS) (L : List PK) (v3 : Value) (wr : World) : Prop where
  en : EndG wr q B Bd vo vi V U e
  fr : Fr (fun k => k = q ∨ vo.ownBlock = some k) w wr
  pk : PkR wr w.heap.size (fun k => w.heap.size ≤ k ∧ k < wr.heap.size ∧ v3.ownBlock ≠ some k) v3 L
section
variable {w wr wr' : World} {q B k : Nat} {Bd : Nat → Prop} {vo vi v3 : Value} {V U : Nat → Value} {e : EnS} {L : List PK}
theorem EoQ.form (h : EoQ w q B Bd vo vi V U e L v3 wr) : ∃ A c, v3 = .slice A L.length c := by
  obtain ⟨W, h1, -⟩ := h.pk
  obtain ⟨A, c, e1, -, -, -⟩ := own_any h1
  exact ⟨A, c, e1⟩
theorem PkR.fr {D : Nat → Prop} {base : Nat} {Bn Bn' : Nat → Prop} (h : PkR w base Bn v3 L) (hf : Fr D w wr) (h1 : ∀ k, v3.ownBlock = some k → ¬ D k) (h2 : ∀ k, Bn k → ¬ D k) (h3 : ∀ k, Bn k → k < w.heap.size → Bn' k) : PkR wr base Bn' v3 L := by
  obtain ⟨W, hr, hb⟩ := h
  exact ⟨W, hf.row hr h1, fun j hj => (hb j hj).fr hf h2 h3⟩
theorem EoQ.new (h : EoQ w q B Bd vo vi V U e L v3 wr) (hf : Fr (fun _ => False) wr wr') : EoQ w q B Bd vo vi V U e L v3 wr' :=
  ⟨h.en.fr hf (fun h => h) (fun _ _ h => h) (fun _ _ h => h) (fun _ _ h => h), h.fr.trans hf (fun _ h => h.elim), h.pk.fr hf (fun _ _ h => h) (fun _ _ h => h) (fun k hk _ => ⟨hk.1, Nat.lt_of_lt_of_le hk.2.1 hf.size, hk.2.2⟩)⟩
theorem EoQ.qlt (h : EoQ w q B Bd vo vi V U e L v3 wr) (hq : q < w.heap.size) : ∀ g, v3.ownBlock = some g → w.heap.size ≤ g ∧ g ≠ q := fun g hg => by
  obtain ⟨W, h1, -⟩ := h.pk
  have := (World.ownsRow.lt h1 g hg).1
  exact ⟨this, by omega⟩
theorem EndG.at {g n cap k : Nat} (h : EndG w q B Bd (.slice (some ⟨g, 0, none⟩) n cap) vi V U e) (hn : e.out.length = n) (hk : k < n) : w.cell? ⟨g, k * 2, none⟩ = some (V k) ∧ w.cell? ⟨g, k * 2 + 1, none⟩ = some (.bool (eoN e.out k).2) ∧ ∀ o, w.frozen? ⟨g, o, none⟩ = false := by
  have hro := h.ro
  rw [hn] at hro
  have e0 := flatC_get (g := pdC e.out V) (sz := 2) (fun _ => rfl) hk (j := 0) (by omega)
  rw [Nat.add_zero] at e0
  exact ⟨by rw [hro.cellAt _ (by omega), e0]; rfl, by rw [hro.cellAt _ (by omega), flatC_get (g := pdC e.out V) (sz := 2) (fun _ => rfl) hk (by omega)]; rfl, fun o => hro.frozenAt o⟩
theorem EnS.sent_same {k : Nat} (hk : k < e.out.length) (h : (eoN e.out k).2 = true) : e.sent (k + 1) = e.sent k := by unfold EnS.sent; rw [sentTo_same k e.out hk h]
theorem EnS.news_same {k : Nat} (h : (eoN e.out k).2 = true) : e.news (k + 1) = e.news k := by
  show (e.news k ++ if (eoN e.out k).2 then [] else _) = _
  rw [if_pos h, List.append_nil]
theorem EnS.news_more {k : Nat} (h : (eoN e.out k).2 = false) : e.news (k + 1) = e.news k ++ [e.pk k (some (eoN e.out k).1)] := by
  show (e.news k ++ if (eoN e.out k).2 then [] else _) = _
  rw [if_neg (by rw [h]; decide)]
theorem EnS.sent_at {k : Nat} (hk : k < e.out.length) : (eoN (e.sent k).out k).2 = (eoN e.out k).2 ∧ (eoN (e.sent k).out k).1 = (eoN e.out k).1 := by
  show (eoN (sentTo k e.out) k).2 = _ ∧ (eoN (sentTo k e.out) k).1 = _
  rw [sentTo_get k e.out k hk]
  simp
/-- one packet more -/
theorem EoQ.app {e0 : EnS} (h0 : EndG w q B Bd vo vi V U e0) (h : EoQ w q B Bd vo vi V U e L v3 wr) {w5 : World} {o : Obj} {v5 u : Value} {p : PK} {W : Nat → Value} {Bu : Nat → Prop} (hb : ∀ j, j < L.length → PkBody wr (fun k => w.heap.size ≤ k ∧ k < wr.heap.size ∧ v3.ownBlock ≠ some k) (W j) (pkN L j).body)
    (hg : (wr.alloc o).grownBy w5 v3.ownBlock) (hr : w5.ownsRow w.heap.size 124 5 v5 (L.length + 1) (flatC (pkC L W) L.length ++ pkV p u)) (hat : v5.ownBlock = v3.ownBlock ∨ ∃ g, v5.ownBlock = some g ∧ wr.heap.size ≤ g)
    (hu : PkBody wr Bu u p.body) (hBu : ∀ k, Bu k → w.heap.size ≤ k ∧ k < wr.heap.size ∧ v3.ownBlock ≠ some k) : EoQ w q B Bd vo vi V U e (L ++ [p]) v5 w5 := by
  have hq := h0.lt
  have hv3 := h.qlt hq
  have hf5 : Fr (fun k => v3.ownBlock = some k) wr w5 := ((Fr.refl _ wr).alloc o).trans' (Fr.of_grown hg (fun b hb => .inl hb))
  have hil : ∀ k, vi.ownBlock = some k → k < wr.heap.size := fun k hk => (World.ownsRow.lt h.en.ri k hk).2
  obtain ⟨W0, hw1, -⟩ := h.pk
  have hz := hf5.size
  have hup : ∀ k, (w.heap.size ≤ k ∧ k < wr.heap.size ∧ v3.ownBlock ≠ some k) → (w.heap.size ≤ k ∧ k < w5.heap.size ∧ v5.ownBlock ≠ some k) := fun k hk => ⟨hk.1, by omega, fun e => by
    rcases hat with h | ⟨g, h, hg⟩
    · exact hk.2.2 (h.symm.trans e)
    · rw [h] at e; injection e with e; omega⟩
  refine ⟨h.en.fr hf5 (fun e => (hv3 q e).2 rfl) (fun k hk hd => ?_) (fun k hk hd => ?_) (fun k hk hd => ?_), h.fr.trans hf5 (fun k hk => .inr (hv3 k hk).1), PkR.snoc (v := v3) hb hf5 hr (fun k hk => hk.2.2) (fun k hk _ => hup k hk) (hu.fr hf5 (fun k hk => (hBu k hk).2.2) (fun k hk _ => hup k (hBu k hk)))⟩
  · have := (World.ownsRow.lt h0.ro k hk).2; have := (hv3 k hd).1; omega
  · have := (World.ownsRow.lt h0.ri k hk).2; have := (hv3 k hd).1; omega
  · have := h0.bdlt k hk; have := (hv3 k hd).1; omega
/-- an end after it has spoken -/
theorem EoQ.fin {e0 : EnS} (h0 : EndG w q B Bd vo vi V U e0) (h : EoQ w q B Bd vo vi V U e L v3 wr) : EoQ w q B Bd vo vi V U { e with due := false } L v3 (wr.setCell ⟨q, 6, none⟩ (.bool false)) := by
  have hf : Fr (fun k => k = q) wr (wr.setCell ⟨q, 6, none⟩ (.bool false)) := Fr.setAt (Fr.refl _ wr) _
  have hv3 := h.qlt h0.lt
  have E := h.en
  refine ⟨⟨set_other E.c0 (by decide), set_other E.c1 (by decide), set_other E.c2 (by decide), set_other E.c3 (by decide), set_other E.c4 (by decide), set_other E.c5 (by decide), set_this E.c6, set_fz E.fz, hf.row E.ro (fun k hk => (E.ap.1 k hk).1), hf.row E.ri (fun k hk => E.ap.2 k hk), fun j hj => (E.bo j hj).fr hf (fun k hk => (E.no k hk).1) (fun _ h _ => h), fun j hj => (E.bi j hj).fr hf (fun k hk => (E.no k hk).1) (fun _ h _ => h), E.ap, E.no, fun k hk => Nat.lt_of_lt_of_le (E.bdlt k hk) hf.size, E.sz⟩, h.fr.trans hf (fun k hk => .inl (.inl hk)), h.pk.fr hf (fun k hk => (hv3 k hk).2) (fun k hk e => ?_) (fun k hk _ => ⟨hk.1, Nat.lt_of_lt_of_le hk.2.1 hf.size, hk.2.2⟩)⟩
  have e' : k = q := e
  have := h0.lt
  omega
theorem EoQ.flag {e0 : EnS} {g cap n : Nat} (h0 : EndG w q B Bd (.slice (some ⟨g, 0, none⟩) n cap) vi V U e0) (h : EoQ w q B Bd (.slice (some ⟨g, 0, none⟩) n cap) vi V U (e0.sent k) L v3 wr) (hn : e0.out.length = n) (hk : k < n) : EoQ w q B Bd (.slice (some ⟨g, 0, none⟩) n cap) vi V U (e0.sent (k + 1)) L v3 (wr.setCell ⟨g, k * 2 + 1, none⟩ (.bool true)) := by
  obtain ⟨h1, hf⟩ := h.en.flag hn hk
  have hv3 := h.qlt h0.lt
  have hg : g < w.heap.size := (World.ownsRow.lt h0.ro g rfl).2
  refine ⟨h1, h.fr.trans hf (fun k hk => .inl (.inr (by rw [show k = g from hk]; rfl))), h.pk.fr hf (fun k hk e => ?_) (fun k hk e => ?_) (fun k hk _ => ⟨hk.1, Nat.lt_of_lt_of_le hk.2.1 hf.size, hk.2.2⟩)⟩
  · have e' : k = g := e
    have := (hv3 k hk).1
    omega
  · have e' : k = g := e
    have := hk.1
    omega
end
set_option maxRecDepth 100000 in
set_option maxHeartbeats 4000000 in
theorem eout_any {w : World} {q B : Nat} {Bd : Nat → Prop} {vo vi : Value} {V U : Nat → Value} {e : EnS} (h : EndG w q B Bd vo vi V U e) (hB : B ≤ w.heap.size) :
    Calls Tryz.prog 125 #[.pointer (some ⟨q, 0, none⟩)] w (EOutPost w q B Bd vo vi V U e) := by
  have c1 := h.c1
  have c4 := h.c4
  have hlt := h.lt
  obtain ⟨hs1, hs2, hs3, hs4, hs5⟩ := h.sz
  obtain ⟨Ao, co, rfl, -, -, -⟩ := own_any h.ro
  have HH := Lib.hid h
  obtain ⟨n, hn⟩ : ∃ n, e.out.length = n := ⟨_, rfl⟩
  have HN := Lib.hid hn
  obtain ⟨lm, hlm⟩ : ∃ lm, e.lim = lm := ⟨_, rfl⟩
  have HLM := Lib.hid hlm
  rw [hn] at c4 hs4 HH
  rw [hlm] at c1 hs1
  have hmin : min (lm : Int) (n : Int) = ((min lm n : Nat) : Int) := by omega
  clear h hn hlm
  go_enter Tryz.func125, Tryz.ntmps125
  rw [HN.out]
  go_wp2_with fail
  go_region
  have HQ0 := Lib.hid (show EoQ w q B Bd (.slice Ao n co) vi V U (e.sent 0) (e.news 0) (.slice none 0 0) w.drew from ⟨HH.out.fr (D := fun _ => False) (Fr.refl _ w).drew (fun h => h) (fun _ _ h => h) (fun _ _ h => h) (fun _ _ h => h), (Fr.refl _ w).drew, PkR.nil _ _ _⟩)
  obtain ⟨m, hm⟩ : ∃ m, min lm n = m := ⟨_, rfl⟩
  have HM := Lib.hid (show e.top = m by unfold EnS.top; rw [HLM.out, HN.out, hm])
  have hmn : m ≤ n := by omega
  rw [hm]
  clear c1 c4 hmin hm
  obtain ⟨ipk, hipk, zp0, zp1, zp2⟩ := info_parts infoPk
  obtain ⟨w0, hw0⟩ : ∃ w0, w0 = w.drew := ⟨_, rfl⟩
  rw [← hw0] at HQ0 ⊢
  clear hw0
  go_wp2_with fail
  go_loopw [3, 4, 5, 6, 17] (fun v3 _ _ _ v17 wr => ∃ k, k ≤ m ∧ v17 = .int .i64 (k : Int) ∧ (∃ A3 c3, v3 = .slice A3 (e.news k).length c3) ∧ Hid (EoQ w q B Bd (.slice Ao n co) vi V U (e.sent k) (e.news k) v3 wr)) (fun _ _ _ _ v17 _ => m - (intOf v17).toNat)
  case atStart => exact ⟨0, Nat.zero_le _, rfl, ⟨none, 0, rfl⟩, HQ0⟩
  case round =>
    obtain ⟨k, hk, rfl, ⟨A3, c3, rfl⟩, HQ⟩ := hrel
    by_cases hlt2 : k < m
    · have hd : decide ((k : Int) < (m : Int)) = true := decide_eq_true (by omega)
      obtain ⟨g, cap, hv, -, -⟩ := World.ownsRow.form HH.out.ro (by rw [HN.out]; omega)
      injection hv with h1 h2 h3
      subst h1 h3
      clear h2
      have hko : k < e.out.length := by rw [HN.out]; omega
      have hkn : k < n := by omega
      have x4 := HQ.out.en.c4
      have hsl : (e.sent k).out.length = n := by show (sentTo k e.out).length = n; rw [sentTo_len, HN.out]
      obtain ⟨y0, y1, yf⟩ := HQ.out.en.at hsl hkn
      rw [(EnS.sent_at hko).1] at y1
      obtain ⟨A, c, hVk, -, -, -⟩ := HQ.out.en.bo k (by rw [hsl]; omega)
      cases hs : (eoN e.out k).2 with
      | true =>
        rw [hs] at y1
        have HS := Lib.hid hs
        have HKO := Lib.hid hko
        clear hs hVk
        go_wp2_with fail
        have e1 := EnS.news_same (e := e) HS.out
        have e2 := EnS.sent_same (e := e) HKO.out HS.out
        exact ⟨⟨k + 1, by omega, by go_num, ⟨A3, c3, by rw [e1]⟩, by rw [e1, e2]; exact HQ⟩, by simp [intOf]; omega⟩
      | false =>
        rw [hs] at y1
        have HS := Lib.hid hs
        have HKO := Lib.hid hko
        clear hs
        have hgq : g < w.heap.size := (World.ownsRow.lt HH.out.ro g rfl).2
        have HGQ := Lib.hid hgq
        have yf1 := yf (k * 2 + 1)
        have HQ1 := Lib.hid (HQ.out.flag HH.out HN.out hkn)
        have HPK := Lib.hid (epacket_any HQ1.out.en (i := k) (by omega))
        have hsl1 : (e.sent (k + 1)).out.length = n := by show (sentTo (k + 1) e.out).length = n; rw [sentTo_len, HN.out]
        have HSL1 := Lib.hid hsl1
        have HXK := Lib.hid (show (eoN (e.sent (k + 1)).out k).1 = (eoN e.out k).1 by show (eoN (sentTo (k + 1) e.out) k).1 = _; rw [sentTo_get _ _ _ hko])
        rw [(EnS.sent_at hko).2] at hVk
        obtain ⟨x, hx⟩ : ∃ x, (eoN e.out k).1 = x := ⟨_, rfl⟩
        rw [hx] at hVk HXK
        have HX := Lib.hid hx
        have hl30 := x.enc_len
        obtain ⟨xl, hxl⟩ : ∃ xl, x.enc.length = xl := ⟨_, rfl⟩
        have HXL := Lib.hid hxl
        rw [hxl] at hVk hl30
        have HV := Lib.hid hVk
        obtain ⟨l, hl⟩ : ∃ l, e.news k = l := ⟨_, rfl⟩
        have HL := Lib.hid hl
        have hl8 : l.length ≤ 8 := by have := e.news_len k; rw [hl] at this; omega
        rw [hl] at HQ1 ⊢
        clear hl hx hxl hsl1 hVk
        go_wp2_with fail
        refine HPK.out.mono ?_
        rintro r1 w2 ⟨rfl, hf1⟩
        have HQ2 := Lib.hid (HQ1.out.new hf1)
        obtain ⟨sq, hsq⟩ : ∃ sq, (e.sent (k + 1)).base + k = sq := ⟨_, rfl⟩
        obtain ⟨ak, hak⟩ : ∃ ak, (e.sent (k + 1)).want = ak := ⟨_, rfl⟩
        obtain ⟨wd, hwd⟩ : ∃ wd, 8 - (e.sent (k + 1)).inn.length = wd := ⟨_, rfl⟩
        have HPV := Lib.hid (show ∀ u, pkV (e.pk k (some x)) u = [.int .u32 (sq : Int), .int .u32 (ak : Int), .bool true, .int .i64 (wd : Int), u] from fun u => by subst hsq hak hwd; rfl)
        rw [hsq, hak, hwd]
        obtain ⟨w3, hw3⟩ : ∃ w3, w3 = w2.alloc (.cells #[.int .u32 (sq : Int), .int .u32 (ak : Int), .bool false, .int .i64 (wd : Int), .slice none 0 0] 124) := ⟨_, rfl⟩
        have HF3 := Lib.hid (show Fr (fun _ => False) w2 w3 by rw [hw3]; exact (Fr.refl _ w2).alloc _)
        have hz3 : w3.heap.size = w2.heap.size + 1 := by rw [hw3]; simp
        have b0 : w3.cell? ⟨w2.heap.size, 0, none⟩ = some (.int .u32 (sq : Int)) := by rw [hw3]; simp [go_sem]
        have b1 : w3.cell? ⟨w2.heap.size, 1, none⟩ = some (.int .u32 (ak : Int)) := by rw [hw3]; simp [go_sem]
        have b2 : w3.cell? ⟨w2.heap.size, 2, none⟩ = some (.bool false) := by rw [hw3]; simp [go_sem]
        have b3 : w3.cell? ⟨w2.heap.size, 3, none⟩ = some (.int .i64 (wd : Int)) := by rw [hw3]; simp [go_sem]
        have b4 : w3.cell? ⟨w2.heap.size, 4, none⟩ = some (.slice none 0 0) := by rw [hw3]; simp [go_sem]
        have bf : ∀ o, w3.frozen? ⟨w2.heap.size, o, none⟩ = false := fun o => by rw [hw3]; simp [go_sem]
        have HQ3 := Lib.hid (HQ2.out.new HF3.out)
        have HW3 := Lib.hid hw3
        have y03 := (HQ3.out.en.at HSL1.out hkn).1
        rw [HV.out] at y03
        have y02 := (HQ2.out.en.at HSL1.out hkn).1
        rw [HV.out] at y02
        have hgw2 : g < w2.heap.size := Nat.lt_of_lt_of_le HGQ.out HQ2.out.fr.size
        have hgw3 : g < w3.heap.size := Nat.lt_of_lt_of_le HGQ.out HQ3.out.fr.size
        have HCL := Lib.hid (show Calls Tryz.prog 144 #[.slice A xl c] w3 (ClPost Bd x.enc w3) from by
          have h := HQ3.out.en.bo k (by rw [HSL1.out]; exact hkn)
          rw [HXK.out, HV.out] at h
          exact clone_body h (by rw [HXL.out]; omega))
        clear hf1 hsq hak hwd hw3
        go_wp2_with fail
        rw [← HW3.out]
        refine HCL.out.mono ?_
        rintro r4 w4 ⟨v1, rfl, ho1, hf4⟩
        obtain ⟨g1, e1, hg1, hl1⟩ := own_info ho1 (by rw [HXL.out]; omega)
        obtain ⟨A1, c1, rfl, -, -, -⟩ := own_any ho1
        have HG1 := Lib.hid e1
        have hb1 : BodyIn w4 (fun k => k = g1) (.slice A1 x.enc.length c1) x.enc := body_of_own ho1 _ (fun k hk => by rw [e1] at hk; injection hk with hk; exact hk.symm)
        have hz4 := hf4.size
        have d0 := hf4.cell b0 (fun h => h)
        have d1 := hf4.cell b1 (fun h => h)
        have d2 := hf4.cell b2 (fun h => h)
        have d3 := hf4.cell b3 (fun h => h)
        have d4 := hf4.cell b4 (fun h => h)
        have df : ∀ o, w4.frozen? ⟨w2.heap.size, o, none⟩ = false := fun o => (hf4.frozen (World.block_lt_of_cell? w3 _ b0) (fun h => h)).trans (bf o)
        rw [HXL.out] at hb1 ⊢
        obtain ⟨W5, hW5⟩ : ∃ W5, W5 = (w4.setCell ⟨w2.heap.size, 2, none⟩ (.bool true)).setCell ⟨w2.heap.size, 4, none⟩ (.slice A1 xl c1) := ⟨_, rfl⟩
        have hf5 : Fr (fun k => k = w2.heap.size) w4 W5 := by rw [hW5]; exact Fr.setAt (Fr.setAt (Fr.refl _ w4) _) _
        have hf25 : Fr (fun _ => False) w2 W5 := by
          rw [hW5]
          exact Fr.setNew (Fr.setNew (HF3.out.trans' hf4) _) _
        have hz5 : W5.heap.size = w4.heap.size := by rw [hW5]; simp
        have HQ5 := Lib.hid (HQ2.out.new hf25)
        have HB5 := Lib.hid (hb1.fr (Bd' := fun k => k = g1) hf5 (fun k hk e => by
          have hk' : k = g1 := hk
          have e' : k = w2.heap.size := e
          omega) (fun _ h _ => h))
        have hv3l : ∀ k, (Value.slice A3 l.length c3).ownBlock = some k → k < w2.heap.size := fun k hk => by
          obtain ⟨W, h, -⟩ := HQ2.out.pk
          exact (World.ownsRow.lt h k hk).2
        have HBU := Lib.hid (show ∀ k, k = g1 → w.heap.size ≤ k ∧ k < W5.heap.size ∧ (Value.slice A3 l.length c3).ownBlock ≠ some k from fun k hk => ⟨by have := HQ2.out.fr.size; omega, by omega, fun e => by have := hv3l k e; omega⟩)
        obtain ⟨W, hp1, hp2⟩ := HQ5.out.pk
        have HP1 := Lib.hid hp1
        have HP2 := Lib.hid hp2
        have hws : w.heap.size ≤ W5.heap.size := HQ5.out.fr.size
        subst hW5
        clear ho1 hf4 e1 hb1 hf5 hf25 hv3l hp1 hp2
        go_wp2_with (at_builtin; go_loud (refine wpList_append_own_at _ rfl _ _ 220 rfl w.heap.size 124 ipk _ 5 48 Tryz.underlying220 hipk zp0 zp1 zp2 rfl (by omega) (.slice A3 l.length c3) l.length (flatC (pkC l W) l.length) rfl ((Fr.refl (fun _ => False) _).alloc _ |>.row HP1.out (fun _ _ h => h)) ⟨w4.heap.size, 0, none⟩ 1 1 [.int .u32 (sq : Int), .int .u32 (ak : Int), .bool true, .int .i64 (wd : Int), .slice A1 xl c1] rfl rfl (cell_newL _ _ _ _ (by simp)) (by intro u hu; simp at hu; rcases hu with rfl | rfl | rfl | rfl | rfl <;> rfl) (by unfold maxLen; omega) (by omega) (by simp at hws ⊢; omega) ?_; intro v5 w5 hown5 hgrow5 _ hat5; obtain ⟨A5, c5, rfl, -, -, -⟩ := own_any hown5; have HQ6 := Lib.hid (HQ5.out.app HH.out HP2.out hgrow5 (v5 := .slice A5 (l.length + 1) c5) (u := .slice A1 xl c1) (p := e.pk k (some x)) (by rw [HPV.out]; exact hown5) (by rcases hat5 with h | h; exact .inl h; exact .inr ⟨_, h, by simp⟩) (Bu := fun k => k = g1) HB5.out HBU.out); clear hown5 hgrow5 hat5))
        all_goals
          have e1 := EnS.news_more (e := e) HS.out
          rw [HX.out, HL.out] at e1
          exact ⟨⟨k + 1, by omega, by go_num, ⟨A5, c5, by rw [e1]; simp⟩, by rw [e1]; exact HQ6⟩, by simp [intOf]; omega⟩
    · have hd : decide ((k : Int) < (m : Int)) = false := decide_eq_false (by omega)
      have hkm : k = m := by omega
      subst hkm
      have x4 := HQ.out.en.c4
      have x6 : wr.cell? ⟨q, 6, none⟩ = some (.bool e.due) := HQ.out.en.c6
      have fz := HQ.out.en.fz
      obtain ⟨l, hl⟩ : ∃ l, e.news k = l := ⟨_, rfl⟩
      have HL := Lib.hid hl
      rw [hl] at HQ ⊢
      have hl8 : l.length ≤ 8 := by have := e.news_len k; rw [hl] at this; omega
      obtain ⟨du, hdu⟩ : ∃ du, e.due = du := ⟨_, rfl⟩
      have HDU := Lib.hid hdu
      rw [hdu] at x6
      have HFIN := Lib.hid (show ∀ (L' : List PK) (v5 : Value) (w5 : World), e.outs = L' → EoQ w q B Bd (.slice Ao n co) vi V U { e.sent k with due := false } L' v5 w5 → EOutPost w q B Bd (.slice Ao n co) vi V U e (.returned v5) w5 from fun L' v5 w5 h1 h2 => ⟨v5, rfl, by rw [h1]; exact h2.pk, by unfold EnS.outE; rw [HM.out]; exact h2.en, h2.fr⟩)
      clear hl hdu
      by_cases hl0 : l.length = 0
      · have e0 : l = [] := List.eq_nil_of_length_eq_zero hl0
        have hb : ((l.length : Int) == 0) = true := beq_iff_eq.2 (by omega)
        cases du with
        | false =>
          have HO := Lib.hid (show e.outs = l by
            unfold EnS.outs
            rw [HM.out, HL.out, if_neg (fun h => by rw [HDU.out] at h; cases h.2)])
          have HQF := Lib.hid (HQ.out.fin HH.out)
          clear hl0 e0
          go_wp2_with fail
          go_ret
          exact HFIN.out _ _ _ HO.out HQF.out
        | true =>
          have HO := Lib.hid (show e.outs = l ++ [e.pk n none] by
            unfold EnS.outs
            rw [HM.out, HL.out, if_pos ⟨e0, HDU.out⟩, e0, HN.out]
            rfl)
          have HPK := Lib.hid (epacket_any HQ.out.en (i := n) (by omega))
          clear hl0 e0
          go_wp2_with fail
          refine HPK.out.mono ?_
          rintro r1 w1 ⟨rfl, hf1⟩
          have HQ1 := Lib.hid (HQ.out.new hf1)
          obtain ⟨W, hW1, hW2⟩ := HQ1.out.pk
          have HW1 := Lib.hid hW1
          have HB := Lib.hid hW2
          have hw1 : w.heap.size ≤ w1.heap.size := HQ1.out.fr.size
          obtain ⟨sq, hsq⟩ : ∃ sq, (e.sent k).base + n = sq := ⟨_, rfl⟩
          obtain ⟨ak, hak⟩ : ∃ ak, (e.sent k).want = ak := ⟨_, rfl⟩
          obtain ⟨wd, hwd⟩ : ∃ wd, 8 - (e.sent k).inn.length = wd := ⟨_, rfl⟩
          have HPV := Lib.hid (show ∀ u, pkV (e.pk n none) u = [.int .u32 (sq : Int), .int .u32 (ak : Int), .bool false, .int .i64 (wd : Int), u] from fun u => by subst hsq hak hwd; rfl)
          rw [hsq, hak, hwd]
          clear hf1 hW1 hW2 hsq hak hwd
          go_wp2_with (at_builtin; go_loud (refine wpList_append_own_at _ rfl _ _ 220 rfl w.heap.size 124 ipk _ 5 48 Tryz.underlying220 hipk zp0 zp1 zp2 rfl (by omega) (.slice A3 l.length c3) l.length (flatC (pkC l W) l.length) rfl ((Fr.refl (fun _ => False) w1).alloc _ |>.row HW1.out (fun _ _ h => h)) ⟨w1.heap.size, 0, none⟩ 1 1 [.int .u32 (sq : Int), .int .u32 (ak : Int), .bool false, .int .i64 (wd : Int), .slice none 0 0] rfl rfl (cell_newL _ _ _ _ rfl) (by intro u hu; simp at hu; rcases hu with rfl | rfl | rfl | rfl | rfl <;> rfl) (by unfold maxLen; omega) (by omega) (by simp; omega) ?_; intro v5 w5 hown5 hgrow5 _ hat5; obtain ⟨A5, c5, rfl, -, -, -⟩ := own_any hown5; have HQ5 := Lib.hid (HQ1.out.app HH.out HB.out hgrow5 (v5 := .slice A5 (l.length + 1) c5) (u := .slice none 0 0) (p := e.pk n none) (by rw [HPV.out]; exact hown5) (by rcases hat5 with h | h; exact .inl h; exact .inr ⟨_, h, by simp⟩) (Bu := fun _ => False) rfl (fun _ h => h.elim)); have x65 : w5.cell? ⟨q, 6, none⟩ = some (.bool true) := (HQ5.out.en.c6).trans (congrArg (fun b => some (Value.bool b)) HDU.out); have fz5 := HQ5.out.en.fz 6; clear hown5 hgrow5 hat5))
          all_goals
            have HQF := Lib.hid (HQ5.out.fin HH.out)
            go_ret
            exact HFIN.out _ _ _ HO.out HQF.out
      · have hb : ((l.length : Int) == 0) = false := beq_eq_false_iff_ne.2 (by omega)
        have HO := Lib.hid (show e.outs = l by
          unfold EnS.outs
          rw [HM.out, HL.out, if_neg (fun h => hl0 (by rw [h.1]; rfl))])
        have HQF := Lib.hid (HQ.out.fin HH.out)
        clear hl0
        go_wp2_with fail
        go_ret
        exact HFIN.out _ _ _ HO.out HQF.out
end Go.Proofs.YthgbcgphkddmgaaGreat
namespace Go.Proofs.YthgbcgphkddmgaaGreat
open Go.RowKit
set_option linter.unusedVariables false
set_option linter.unusedSimpArgs false
/-- the first k are to be sent again -/
def clr : Nat → List (FL × Bool) → List (FL × Bool)
  | 0, l => l
  | _ + 1, [] => []
  | k + 1, x :: l => (x.1, false) :: clr k l
theorem clr_len : ∀ (k : Nat) (l : List (FL × Bool)), (clr k l).length = l.length
  | 0, _ => rfl
  | _ + 1, [] => rfl
  | k + 1, x :: l => by simp [clr, clr_len k l]
theorem clr_get : ∀ (k : Nat) (l : List (FL × Bool)) (j : Nat), j < l.length → eoN (clr k l) j = ((eoN l j).1, (eoN l j).2 && !decide (j < k))
  | 0, l, j, _ => by simp [clr]
  | k + 1, [], j, h => by cases h
  | k + 1, x :: l, 0, _ => by simp [clr, eoN]
  | k + 1, x :: l, j + 1, h => by
    have := clr_get k l j (by simpa using h)
    unfold eoN at this ⊢
    simp only [clr, List.getD_cons_succ]
    rw [this]
    simp
theorem clr_all : ∀ (l : List (FL × Bool)), clr l.length l = l.map fun x => (x.1, false)
  | [] => rfl
  | x :: l => by
    show (x.1, false) :: clr l.length l = _
    rw [clr_all l]
    rfl
def EnS.clr (e : EnS) (k : Nat) : EnS := { e with out := Go.Proofs.YthgbcgphkddmgaaGreat.clr k e.out }
def EnS.tick (e : EnS) : EnS := { e with out := e.out.map fun x => (x.1, false), lim := if 0 < e.out.length then max e.lim 1 else e.lim }
theorem EndG.clr {w : World} {q B k g cap n : Nat} {Bd : Nat → Prop} {vi : Value} {V U : Nat → Value} {e : EnS} (h : EndG w q B Bd (.slice (some ⟨g, 0, none⟩) n cap) vi V U (e.clr k)) (hn : e.out.length = n) (hk : k < n) :
    EndG (w.setCell ⟨g, k * 2 + 1, none⟩ (.bool false)) q B Bd (.slice (some ⟨g, 0, none⟩) n cap) vi V U (e.clr (k + 1)) ∧ Fr (fun b => b = g) w (w.setCell ⟨g, k * 2 + 1, none⟩ (.bool false)) := by
  have hf : Fr (fun b => b = g) w (w.setCell ⟨g, k * 2 + 1, none⟩ (.bool false)) := Fr.setAt (Fr.refl _ w) _
  have hq : ¬ q = g := fun e2 => (h.ap.1 g rfl).1 e2.symm
  have hl : (e.clr k).out.length = n := by show (Go.Proofs.YthgbcgphkddmgaaGreat.clr k e.out).length = n; rw [clr_len, hn]
  have hl1 : (e.clr (k + 1)).out.length = n := by show (Go.Proofs.YthgbcgphkddmgaaGreat.clr (k + 1) e.out).length = n; rw [clr_len, hn]
  have hb : ∀ b, Bd b → ¬ b = g := fun b hb e2 => (h.no b hb).2.1 (by rw [e2]; rfl)
  have hs : ∀ j, j < n → (eoN (e.clr (k + 1)).out j).1 = (eoN (e.clr k).out j).1 := fun j hj => by
    show (eoN (Go.Proofs.YthgbcgphkddmgaaGreat.clr (k + 1) e.out) j).1 = (eoN (Go.Proofs.YthgbcgphkddmgaaGreat.clr k e.out) j).1
    rw [clr_get _ _ _ (by omega), clr_get _ _ _ (by omega)]
  have hro := h.ro
  rw [hl] at hro
  have h1 := (hro.stored (k * 2 + 1) (.bool false)).1
  rw [flatC_set (sz := 2) (fun _ => rfl) (by omega)] at h1
  refine ⟨⟨hf.cell h.c0 hq, hf.cell h.c1 hq, hf.cell h.c2 hq, hf.cell h.c3 hq, hf.cell h.c4 hq, hf.cell h.c5 hq, hf.cell h.c6 hq, fun o => (hf.frozen h.lt hq).trans (h.fz o), ?_, hf.row h.ri (fun b hb e2 => (h.ap.1 g rfl).2 (by rw [← e2]; exact hb)), fun j hj => ?_, fun j hj => (h.bi j hj).fr hf hb (fun _ h _ => h), h.ap, h.no, fun b hb => Nat.lt_of_lt_of_le (h.bdlt b hb) hf.size, ?_⟩, hf⟩
  · rw [hl1]
    refine (congrArg (fun z => World.ownsRow _ _ _ _ _ _ z) (flatC_ext n (fun j hj => ?_))).mp h1
    have e1 : pdC (e.clr (k + 1)).out V j = [V j, .bool ((eoN e.out j).2 && !decide (j < k + 1))] := by
      show [V j, Value.bool (eoN (Go.Proofs.YthgbcgphkddmgaaGreat.clr (k + 1) e.out) j).2] = _
      rw [clr_get _ _ _ (by omega)]
    have e2 : pdC (e.clr k).out V j = [V j, .bool ((eoN e.out j).2 && !decide (j < k))] := by
      show [V j, Value.bool (eoN (Go.Proofs.YthgbcgphkddmgaaGreat.clr k e.out) j).2] = _
      rw [clr_get _ _ _ (by omega)]
    unfold updC
    by_cases e3 : j = k
    · subst e3
      rw [if_pos rfl, e1]
      have : decide (j < j + 1) = true := decide_eq_true (by omega)
      rw [this, Bool.not_true, Bool.and_false]
      rfl
    · rw [if_neg e3, e1, e2]
      have : decide (j < k + 1) = decide (j < k) := decide_eq_decide.2 (by omega)
      rw [this]
  · rw [hl1] at hj
    rw [hs j hj]
    exact (h.bo j (by omega)).fr hf hb (fun _ h _ => h)
  · have := h.sz
    refine ⟨this.1, this.2.1, this.2.2.1, ?_, this.2.2.2.2⟩
    have := this.2.2.2.1
    omega
theorem EndG.limit {w : World} {q B l : Nat} {Bd : Nat → Prop} {vo vi : Value} {V U : Nat → Value} {e : EnS} (h : EndG w q B Bd vo vi V U e) (hl : l ≤ 16) :
    EndG (w.setCell ⟨q, 1, none⟩ (.int .i64 (l : Int))) q B Bd vo vi V U { e with lim := l } ∧ Fr (fun b => b = q) w (w.setCell ⟨q, 1, none⟩ (.int .i64 (l : Int))) := by
  have hf : Fr (fun b => b = q) w (w.setCell ⟨q, 1, none⟩ (.int .i64 (l : Int))) := Fr.setAt (Fr.refl _ w) _
  exact ⟨⟨set_other h.c0 (by decide), set_this h.c1, set_other h.c2 (by decide), set_other h.c3 (by decide), set_other h.c4 (by decide), set_other h.c5 (by decide), set_other h.c6 (by decide), set_fz h.fz, hf.row h.ro (fun k hk => (h.ap.1 k hk).1), hf.row h.ri (fun k hk => h.ap.2 k hk), fun j hj => (h.bo j hj).fr hf (fun k hk => (h.no k hk).1) (fun _ h _ => h), fun j hj => (h.bi j hj).fr hf (fun k hk => (h.no k hk).1) (fun _ h _ => h), h.ap, h.no, fun k hk => Nat.lt_of_lt_of_le (h.bdlt k hk) hf.size, ⟨hl, h.sz.2⟩⟩, hf⟩
def ETickPost (w : World) (q B : Nat) (Bd : Nat → Prop) (vo vi : Value) (V U : Nat → Value) (e : EnS) (r : Ending) (w' : World) : Prop :=
  r = .returned (.tuple #[]) ∧ EndG w' q B Bd vo vi V U e.tick ∧ Fr (fun k => k = q ∨ vo.ownBlock = some k) w w'
set_option maxRecDepth 100000 in
set_option maxHeartbeats 4000000 in
theorem etick_any {w : World} {q B : Nat} {Bd : Nat → Prop} {vo vi : Value} {V U : Nat → Value} {e : EnS} (h : EndG w q B Bd vo vi V U e) :
    Calls Tryz.prog 59 #[.pointer (some ⟨q, 0, none⟩)] w (ETickPost w q B Bd vo vi V U e) := by
  have x4 := h.c4
  have hlt := h.lt
  have hs1 := h.sz.1
  have hs4 := h.sz.2.2.2.1
  obtain ⟨Ao, co, rfl, -, -, -⟩ := own_any h.ro
  have HH := Lib.hid h
  obtain ⟨n, hn⟩ : ∃ n, e.out.length = n := ⟨_, rfl⟩
  have HN := Lib.hid hn
  rw [hn] at x4 hs4 HH
  have HE0 := Lib.hid (show EndG w q B Bd (.slice Ao n co) vi V U (e.clr 0) from HH.out)
  have HF0 := Lib.hid (Fr.refl (fun k => k = q ∨ (Value.slice Ao n co).ownBlock = some k) w)
  clear h hn
  go_enter Tryz.func59, Tryz.ntmps59
  rw [HN.out]
  go_wp2_with fail
  clear x4
  go_loopw [2, 8] (fun _ v8 wr => ∃ k, k ≤ n ∧ v8 = .int .i64 (k : Int) ∧ Hid (EndG wr q B Bd (.slice Ao n co) vi V U (e.clr k)) ∧ Hid (Fr (fun k => k = q ∨ (Value.slice Ao n co).ownBlock = some k) w wr)) (fun _ v8 _ => n - (intOf v8).toNat)
  case atStart => exact ⟨0, Nat.zero_le _, rfl, HE0, HF0⟩
  case round =>
    obtain ⟨k, hk, rfl, HE, HF⟩ := hrel
    have x4 := HE.out.c4
    have fz := HE.out.fz
    by_cases hlt2 : k < n
    · have hd : decide ((k : Int) < (n : Int)) = true := decide_eq_true (by omega)
      obtain ⟨g, cap, hv, -, -⟩ := World.ownsRow.form HH.out.ro (by rw [HN.out]; omega)
      injection hv with h1 h2 h3
      subst h1 h3
      clear h2
      have hcl : (e.clr k).out.length = n := by show (Go.Proofs.YthgbcgphkddmgaaGreat.clr k e.out).length = n; rw [clr_len, HN.out]
      obtain ⟨y0, y1, yf⟩ := HE.out.at hcl hlt2
      have hcn := HE.out.clr HN.out hlt2
      have HE2 := Lib.hid hcn.1
      have HF2 := Lib.hid (HF.out.trans hcn.2 (fun b hb => .inl (.inr (by rw [show b = g from hb]; rfl))))
      have yf1 := yf (k * 2 + 1)
      clear hcl hcn
      go_wp2_with fail
      exact ⟨⟨k + 1, by omega, by go_num, HE2, HF2⟩, by simp [intOf]; omega⟩
    · have hd : decide ((k : Int) < (n : Int)) = false := decide_eq_false (by omega)
      have hkm : k = n := by omega
      subst hkm
      have hcl : (e.clr k).out = e.out.map fun x => (x.1, false) := by
        show Go.Proofs.YthgbcgphkddmgaaGreat.clr k e.out = _
        rw [← HN.out, clr_all]
      have HCL := Lib.hid hcl
      have x1 : wr.cell? ⟨q, 1, none⟩ = some (.int .i64 (e.lim : Int)) := HE.out.c1
      clear hcl
      by_cases h0 : 0 < k
      · have hg : decide ((k : Int) > 0) = true := decide_eq_true (by omega)
        have hmax : max (e.lim : Int) 1 = ((max e.lim 1 : Nat) : Int) := by omega
        have hlim := HE.out.limit (l := max e.lim 1) (by omega)
        have HLI := Lib.hid hlim
        have HZ := Lib.hid h0
        clear hlim h0
        go_wp2_with fail
        refine bodyPost_end (results_none rfl _ _ _) rfl ⟨rfl, ?_, HF.out.trans HLI.out.2 (fun b hb => .inl (.inl hb))⟩
        have := HLI.out.1
        unfold EnS.clr at this
        unfold EnS.tick
        rw [if_pos (by rw [HN.out]; exact HZ.out), ← HCL.out]
        exact this
      · have hg : decide ((k : Int) > 0) = false := decide_eq_false (by omega)
        have HZ := Lib.hid h0
        clear h0
        go_wp2_with fail
        refine bodyPost_end (results_none rfl _ _ _) rfl ⟨rfl, ?_, HF.out⟩
        have := HE.out
        unfold EnS.clr at this
        unfold EnS.tick
        rw [if_neg (by rw [HN.out]; exact HZ.out), ← HCL.out]
        exact this
end Go.Proofs.YthgbcgphkddmgaaGreat
