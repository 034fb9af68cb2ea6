/- Contracts of package copies: Value, Values and Each over values: a copy is the same tree in new memory. -/
import Derived.Test.YtjalgnpbdcefdaaDeep
namespace Go.Proofs.Ytjalgnpbdcefdaa
open Go.RowKit
set_option linter.unusedVariables false
theorem infoV : (Try.prog.info? 27).map (fun i => (i.zero, i.size, i.bytes)) = some (some (.agg #[.int .i64 0, .int .i64 0, .string ⟨#[]⟩, .slice none 0 0]), 4, 56) := by kernel_rfl
/-- the copy: the cells cs' hold t in blocks from lo on -/
def CopyPost (t : VT) (w : World) (e : Ending) (w' : World) : Prop := ∃ cs', e = .returned (.agg cs'.toArray) ∧ t.isV w' (fun b => w.heap.size ≤ b) cs' ∧ Below w.heap.size w w'
def CopyOk (t : VT) : Prop := ∀ (cs : List Value) (S : Nat → Prop) (w : World), t.isV w S cs → t.many ≤ 4194304 → Calls Try.prog 52 #[.agg cs.toArray] w (CopyPost t w)
/-- the copies: a row of the call's own whose elements hold the values -/
def EachPost (n : Nat) (arg : Nat → VT) (w : World) (e : Ending) (w' : World) : Prop :=
  ∃ v C, e = .returned v ∧ w'.ownsRow w.heap.size 27 4 v n (flatC C n) ∧ (∀ i, (C i).length = 4) ∧ (∀ i, i < n → (arg i).isV w' (fun b => w.heap.size ≤ b ∧ some b ≠ v.ownBlock) (C i)) ∧ Below w.heap.size w w'
theorem cell_four_new (w : World) (a b c d : Value) (t : TypeId) : ∀ j u, [a, b, c, d][j]? = some u → (w.alloc (.cells #[a, b, c, d] t)).cell? ((⟨w.heap.size, 0, none⟩ : Addr).add j) = some u := by
  intro j u hj
  match j, hj with
  | 0, hj => simp at hj; subst hj; simp [Addr.add]
  | 1, hj => simp at hj; subst hj; simp [Addr.add]
  | 2, hj => simp at hj; subst hj; simp [Addr.add]
  | 3, hj => simp at hj; subst hj; simp [Addr.add]
theorem flatC_snoc (C : Nat → List Value) (n : Nat) (cs : List Value) : flatC C n ++ cs = flatC (updC C n cs) (n + 1) := by
  rw [flatC]
  congr 1
  · apply flatC_congr
    intro i hi
    have : i ≠ n := by omega
    simp [updC, this]
  · simp [updC]
theorem own_below {w w' : World} {base : Nat} {e : TypeId} {sz n : Nat} {v : Value} {xs : List Value} (h : w.ownsRow base e sz v n xs) (hb : Below w.heap.size w w') : w'.ownsRow base e sz v n xs := by
  refine h.kept (row := none) ⟨hb.os, hb.tape, hb.output, hb.size, fun k hk _ => hb.block k hk⟩ ?_
  cases hv : v.ownBlock with
  | none => exact .inl rfl
  | some g => exact .inr (by simp)
/-- the elements of a row after one more element was appended -/
theorem each_step {wr w1 w2 : World} {base : Nat} {o o' : Obj} {v v' : Value} {t : VT} {cs : List Value} (hb1 : Below (wr.alloc o).heap.size (wr.alloc o) w1) (hg : (w1.alloc o').grownBy w2 v.ownBlock)
    (hat : v'.ownBlock = v.ownBlock ∨ v'.ownBlock = some (w1.alloc o').heap.size) (h : t.isV wr (fun b => base ≤ b ∧ some b ≠ v.ownBlock) cs) : t.isV w2 (fun b => base ≤ b ∧ some b ≠ v'.ownBlock) cs := by
  have h1 := hb1.size
  have h2 := hg.size
  simp at h1 h2
  refine isV_frame (by omega) (fun b hs hlt => ?_) h
  have a1 : some b ≠ v'.ownBlock := by
    rcases hat with e | e
    · rw [e]; exact hs.2
    · rw [e]
      intro hh
      injection hh with hh
      simp at hh
      omega
  exact ⟨⟨hs.1, a1⟩, by rw [hg.block b (by simp; omega) hs.2, Below.heap_alloc w1 o' b (by omega), hb1.block b (by simp; omega), Below.heap_alloc wr o b hlt]⟩
theorem each_new {wr w1 w2 : World} {base : Nat} {o o' : Obj} {v v' : Value} {t : VT} {cs : List Value} (hbase : base ≤ wr.heap.size) (hv : ∀ k, v.ownBlock = some k → k < wr.heap.size) (hb1 : Below (wr.alloc o).heap.size (wr.alloc o) w1) (hg : (w1.alloc o').grownBy w2 v.ownBlock)
    (hat : v'.ownBlock = v.ownBlock ∨ v'.ownBlock = some (w1.alloc o').heap.size) (h : t.isV w1 (fun b => (wr.alloc o).heap.size ≤ b) cs) : t.isV w2 (fun b => base ≤ b ∧ some b ≠ v'.ownBlock) cs := by
  have h1 := hb1.size
  have h2 := hg.size
  simp at h1 h2
  have hne : ∀ b, (wr.alloc o).heap.size ≤ b → some b ≠ v.ownBlock := fun b hb hh => by
    have := hv b hh.symm
    simp at hb
    omega
  refine isV_frame (by omega) (fun b hs hlt => ?_) h
  have a1 : some b ≠ v'.ownBlock := by
    rcases hat with e | e
    · rw [e]; exact hne b hs
    · rw [e]
      intro hh
      injection hh with hh
      simp at hh
      omega
  exact ⟨⟨by simp at hs; omega, a1⟩, by rw [hg.block b (by simp; omega) (hne b hs), Below.heap_alloc w1 o' b hlt]⟩
theorem copy_enters : Enters Try.prog 52 := fun _ _ => by kernel_rfl
set_option maxRecDepth 100000 in
set_option maxHeartbeats 2000000 in
theorem each_any (n c : Nat) (A : Option Addr) (arg : Nat → VT) (S : Nat → Prop) (w : World) (hn : n ≤ 4194304)
    (hV : 0 < n → ∃ b off, A = some ⟨b, off, none⟩ ∧ b < w.heap.size ∧ S b ∧ ∃ C : Nat → List Value, ∀ i, i < n → (arg i).isV w S (C i) ∧ ∀ j u, (C i)[j]? = some u → w.cell? ⟨b, off + i * 4 + j, none⟩ = some u)
    (hm : ∀ i, i < n → (arg i).many ≤ 4194304) (ih : ∀ i, i < n → CopyOk (arg i)) :
    Calls Try.prog 55 #[.slice A n c, .func (.func 52) #[] #[]] w (EachPost n arg w) := by
  obtain ⟨i0, hi, jz0, jz1, jz2⟩ := info_parts infoV
  have HV := Lib.hid hV
  have IH := Lib.hid ih
  have HM := Lib.hid hm
  have HE := Lib.hid copy_enters
  clear hV ih hm
  go_enter Try.func55, Try.ntmps55
  go_wp2_with fail
  go_loopw [5, 7, 10] (fun v _ i wr => ∃ (q : Nat) (C : Nat → List Value), q ≤ n ∧ i = .int .i64 q ∧ wr.ownsRow w.heap.size 27 4 v q (flatC C q) ∧ (∀ i, (C i).length = 4) ∧ (∀ i, i < q → (arg i).isV wr (fun b => w.heap.size ≤ b ∧ some b ≠ v.ownBlock) (C i)) ∧ Below w.heap.size w wr) (fun _ _ i _ => n - (intOf i).toNat)
  case atStart => exact ⟨0, fun _ => List.replicate 4 undef, Nat.zero_le _, rfl, World.ownsRow_nil _ _ _ _, fun _ => by simp, fun i hi => by omega, Below.refl _ _⟩
  case round =>
    obtain ⟨q, C, hq, rfl, hown, hCl, hCv, hB⟩ := hrel
    by_cases hlt : q < n
    · obtain ⟨b, off, rfl, hb, hSb, D, hD⟩ := HV.out (by omega)
      obtain ⟨hDq, hcell⟩ := hD q hlt
      obtain ⟨k', m', s', A', n', c', hCq⟩ := isV_cells hDq
      have hDr := isV_frame (w' := wr) (S' := S) hB.size (fun b hs hlt => ⟨hs, hB.block b hlt⟩) hDq
      rw [hCq] at hcell hDr
      have c0 : wr.cell? ⟨b, off + q * 4, none⟩ = some (.int .i64 k') := (hB.cell (p := ⟨b, _, none⟩) hb).trans (hcell 0 _ rfl)
      have c1 : wr.cell? ⟨b, off + q * 4 + 1, none⟩ = some (.int .i64 m') := (hB.cell (p := ⟨b, _, none⟩) hb).trans (hcell 1 _ rfl)
      have c2 : wr.cell? ⟨b, off + q * 4 + 2, none⟩ = some (.string s') := (hB.cell (p := ⟨b, _, none⟩) hb).trans (hcell 2 _ rfl)
      have c3 : wr.cell? ⟨b, off + q * 4 + 3, none⟩ = some (.slice A' n' c') := (hB.cell (p := ⟨b, _, none⟩) hb).trans (hcell 3 _ rfl)
      have hBs := hB.size
      have HO := Lib.hid hown
      have HCL := Lib.hid hCl
      have HCV := Lib.hid hCv
      have HDR := Lib.hid hDr
      have hen := HE.out #[.agg #[.int .i64 k', .int .i64 m', .string s', .slice A' n' c']]
      clear hown hCl hCv hDr hD hDq hcell hCq
      go_wp2_with fail
      refine (IH.out q hlt _ S _ (isV_below HDR.out ((Below.refl _ _).alloc (Nat.le_refl _) _)) (HM.out q hlt)).mono ?_
      rintro e w1 ⟨cs', rfl, hV1, hb1⟩
      obtain ⟨k2, m2, s2, A2, n2, c2', rfl⟩ := isV_cells hV1
      have hO1 := own_below ((HO.out).alloc (.cells #[.int .i64 k', .int .i64 m', .string s', .slice A' n' c'] 27)) hb1
      have HO1 := Lib.hid hO1
      have HV1 := Lib.hid hV1
      have HB1 := Lib.hid hb1
      have hz1 : w.heap.size ≤ w1.heap.size := by have := hb1.size; simp at this; omega
      have hlt5 := Lib.hid (fun k hk => (HO.out.lt k hk).2)
      clear hO1 hV1 hb1 hen c0 c1 c2 c3
      go_wp2_with (at_builtin; refine wpList_append_own_at _ rfl _ _ 25 rfl w.heap.size 27 i0 _ 4 56 Try.underlying25 hi jz0 jz1 jz2 rfl (by omega) u5 q (flatC C q) rfl (HO1.out.alloc _) ⟨w1.heap.size, 0, none⟩ 1 1 [.int .i64 k2, .int .i64 m2, .string s2, .slice A2 n2 c2'] rfl rfl (cell_four_new _ _ _ _ _ _) (isV_one HV1.out) (by unfold maxLen; omega) (by omega) (by simp; omega) ?_; intro v2 w2 hown2 hgrow2 _ hat2; rw [flatC_snoc] at hown2; have HO2 := Lib.hid hown2; have HG2 := Lib.hid hgrow2; have HA2 := Lib.hid hat2; clear hown2 hgrow2 hat2)
      go_roundw
      case rel =>
        refine ⟨q + 1, updC C q [.int .i64 k2, .int .i64 m2, .string s2, .slice A2 n2 c2'], by omega, by go_num, HO2.out, fun i => ?_, fun i hi => ?_, ?_⟩
        · unfold updC; split
          · rfl
          · exact HCL.out i
        · by_cases e : i = q
          · subst e
            simp only [updC, if_true]
            exact each_new hBs hlt5.out HB1.out HG2.out HA2.out HV1.out
          · simp only [updC, e, if_false]
            exact each_step HB1.out HG2.out HA2.out (HCV.out i (by omega))
        · exact (((hB.alloc hBs _).trans (HB1.out.mono (by simp; omega))).alloc hz1 _).grown HG2.out (by simp; omega) (fun k hk => (HO.out.lt k hk).1)
      case measure => simp [intOf]; omega
    · obtain rfl : q = n := by omega
      go_wp2_with fail
      go_ret
      exact ⟨_, C, rfl, hown, hCl, hCv, hB⟩
/-- the row that Each made is the arguments of a value -/
theorem isV_of_each {w1 w2 : World} {n : Nat} {arg : Nat → VT} {v : Value} {C : Nat → List Value} {k m : Int} {s : ByteArray} {base : Nat} {A : Option Addr} {c : Nat} (hv : v = .slice A n c) (ho : w1.ownsRow base 27 4 v n (flatC C n)) (hl : ∀ i, (C i).length = 4)
    (hc : ∀ i, i < n → (arg i).isV w1 (fun b => base ≤ b ∧ some b ≠ v.ownBlock) (C i)) (hsz : w1.heap.size ≤ w2.heap.size) (hh : ∀ b, base ≤ b → b < w1.heap.size → w2.heap[b]? = w1.heap[b]?) :
    (VT.node k m s n arg).isV w2 (fun b => base ≤ b) [.int .i64 k, .int .i64 m, .string s, .slice A n c] := by
  subst hv
  obtain ⟨A', c', hv', hnc, hcm, hA⟩ := own_any ho
  injection hv' with e1 e2 e3
  subst e1 e3
  refine ⟨A, c, rfl, hnc, hcm, hA, fun h0 => ?_⟩
  obtain ⟨g, cap, hv2, hb, hlt, _⟩ := own_form ho h0
  injection hv2 with e1 e2 e3
  subst e1
  refine ⟨g, 0, rfl, by omega, hb, C, fun i hi => ⟨isV_frame hsz (fun b hs hl => ⟨hs.1, hh b hs.1 hl⟩) (hc i hi), fun j u hu => ?_⟩⟩
  have hj : j < 4 := by
    rcases Nat.lt_or_ge j 4 with h | h
    · exact h
    · rw [List.getElem?_eq_none (by rw [hl]; exact h)] at hu; cases hu
  have h2 : (i + 1) * 4 ≤ n * 4 := Nat.mul_le_mul_right _ (by omega)
  rw [Nat.zero_add, World.cell?_of_block (a := ⟨g, _, none⟩) (hh g hb hlt), ho.cellAt _ (by omega), flatC_get hl hi hj]
  exact hu
set_option maxRecDepth 100000 in
set_option maxHeartbeats 1000000 in
theorem copy_any : ∀ t : VT, CopyOk t := by
  intro t
  induction t with
  | none => intro cs S w h; exact h.elim
  | node k m s n arg ih =>
    intro cs S w h hm
    have h' := h
    obtain ⟨A, c, rfl, hnc, hcm, hA, hV⟩ := h'
    have hn : n ≤ 4194304 ∧ ∀ i, i < n → (arg i).many ≤ 4194304 := by
      simp only [VT.many] at hm
      refine ⟨?_, fun i hi => ?_⟩
      · by_cases h0 : 0 < n
        · obtain ⟨b, off, _, _, _, C, hC⟩ := hV h0
          have h1 : n ≤ sumTo (fun i => (arg i).many) n := len_sumTo fun i hi => isV_many (hC i hi).1
          omega
        · omega
      · have := le_sumTo (g := fun i => (arg i).many) hi
        omega
    have he0 : ∀ o o' : Obj, Calls Try.prog 55 #[.slice A n c, .func (.func 52) #[] #[]] ((w.alloc o).alloc o') (EachPost n arg ((w.alloc o).alloc o')) := fun o o' => by
      have hb : Below w.heap.size w ((w.alloc o).alloc o') := ((Below.refl _ _).alloc (Nat.le_refl _) _).alloc (by simp) _
      obtain ⟨_, _, he, _, _, _, hV'⟩ := isV_below h hb
      simp at he
      obtain ⟨rfl, rfl⟩ := he
      exact each_any n c A arg S _ hn.1 hV' hn.2 (fun i _ => ih i)
    have HE := Lib.hid he0
    clear h hV ih hm hA he0
    go_enter Try.func52, Try.ntmps52
    go_wp2_with fail
    refine (HE.out _ _).mono ?_
    rintro e w1 ⟨v, C, rfl, hown, hCl, hCv, hb1⟩
    obtain ⟨A', c', hv, hnc', hcm', hA'⟩ := own_any hown
    have hz1 : w.heap.size + 2 ≤ w1.heap.size := by have := hb1.size; simp at this; omega
    have HF := Lib.hid (fun (w2 : World) (hsz : w1.heap.size ≤ w2.heap.size) (hh : ∀ b, w.heap.size + 2 ≤ b → b < w1.heap.size → w2.heap[b]? = w1.heap[b]?) => isV_mono (S' := fun b => w.heap.size ≤ b) (isV_of_each (w2 := w2) (k := k) (m := m) (s := s) hv hown hCl hCv hsz (fun b hb hl => hh b (by simpa using hb) hl)) (fun b _ hb => by simp at hb; omega))
    have x0 : w1.cell? ⟨w.heap.size, 0, none⟩ = some (.int .i64 k) := (hb1.cell (p := ⟨_, _, none⟩) (by simp; omega)).trans (by simp)
    have x1 : w1.cell? ⟨w.heap.size, 1, none⟩ = some (.int .i64 m) := (hb1.cell (p := ⟨_, _, none⟩) (by simp; omega)).trans (by simp)
    have x2 : w1.cell? ⟨w.heap.size, 2, none⟩ = some (.string s) := (hb1.cell (p := ⟨_, _, none⟩) (by simp; omega)).trans (by simp)
    have x3 : w1.cell? ⟨w.heap.size, 3, none⟩ = some (.slice A n c) := (hb1.cell (p := ⟨_, _, none⟩) (by simp; omega)).trans (by simp)
    have y0 : w1.cell? ⟨w.heap.size + 1, 0, none⟩ = some (.int .i64 0) := (hb1.cell (p := ⟨_, _, none⟩) (by simp)).trans (by simp)
    have y1 : w1.cell? ⟨w.heap.size + 1, 1, none⟩ = some (.int .i64 0) := (hb1.cell (p := ⟨_, _, none⟩) (by simp)).trans (by simp)
    have y2 : w1.cell? ⟨w.heap.size + 1, 2, none⟩ = some (.string ⟨#[]⟩) := (hb1.cell (p := ⟨_, _, none⟩) (by simp)).trans (by simp)
    have y3 : w1.cell? ⟨w.heap.size + 1, 3, none⟩ = some (.slice none 0 0) := (hb1.cell (p := ⟨_, _, none⟩) (by simp)).trans (by simp)
    have fx : ∀ o, w1.frozen? ⟨w.heap.size, o, none⟩ = false := fun o => (hb1.frozen (p := ⟨_, _, none⟩) (by simp; omega)).trans (by simp)
    have fy : ∀ o, w1.frozen? ⟨w.heap.size + 1, o, none⟩ = false := fun o => (hb1.frozen (p := ⟨_, _, none⟩) (by simp)).trans (by simp)
    have HB := Lib.hid ((((Below.refl w.heap.size w).alloc (Nat.le_refl _) _).alloc (by simp) _).trans (hb1.mono (by simp; omega)))
    subst hv
    clear hown hCl hCv hb1
    go_wp2_with fail
    refine bodyPost_ret (v := .agg #[.int .i64 k, .int .i64 m, .string s, .slice A' n c']) (by simp [results, Try.results52, go_sem, y0, y1, y2, y3]) rfl ⟨[.int .i64 k, .int .i64 m, .string s, .slice A' n c'], rfl, HF.out _ (by simp) (fun b hb _ => ?_), ?_⟩
    · rw [Below.heap_setCell _ _ _ _ (by show b ≠ w.heap.size + 1; omega), Below.heap_setCell _ _ _ _ (by show b ≠ w.heap.size + 1; omega), Below.heap_setCell _ _ _ _ (by show b ≠ w.heap.size + 1; omega), Below.heap_setCell _ _ _ _ (by show b ≠ w.heap.size + 1; omega), Below.heap_setCell _ _ _ _ (by show b ≠ w.heap.size; omega)]
    · exact ((((HB.out.setCell (p := ⟨w.heap.size, 3, none⟩) (Nat.le_refl _) _).setCell (p := ⟨w.heap.size + 1, 0, none⟩) (Nat.le_succ _) _).setCell (p := ⟨w.heap.size + 1, 1, none⟩) (Nat.le_succ _) _).setCell (p := ⟨w.heap.size + 1, 2, none⟩) (Nat.le_succ _) _).setCell (p := ⟨w.heap.size + 1, 3, none⟩) (Nat.le_succ _) _
end Go.Proofs.Ytjalgnpbdcefdaa
