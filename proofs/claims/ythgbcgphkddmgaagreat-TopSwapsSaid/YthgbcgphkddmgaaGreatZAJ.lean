/- The operations on a table of names: valid, wins, write, Find, Set, Drop. The runner of a cluster's law: how it lies. Plain words about worlds behind stores. The runner of a cluster's law: Give, Late, Offer, Top. The runner of a cluster's law: Run. -/
import Derived.Test.YthgbcgphkddmgaaGreatZAD
import Derived.BigRegion
import Derived.Deep.DeepCutAuto
import Derived.Test.YthgbcgphkddmgaaGreatZAC
import Derived.Deep.RegionLaw
import Derived.IntWalk
import Derived.StillTailTactics
namespace Go.Proofs.YthgbcgphkddmgaaGreat.Nm
open Go.RowKit Go.Maps
set_option linter.unusedVariables false
/-- a registry: its block t, its node, its count, its table's block m -/
structure NmAt (w : World) (t : Nat) (nd cnt : Int) (m : Nat) (g : Nat → Option RW) : Prop where
  c0 : w.cell? ⟨t, 0, none⟩ = some (.int .i64 nd)
  c1 : w.cell? ⟨t, 1, none⟩ = some (.int .i64 cnt)
  c2 : w.cell? ⟨t, 2, none⟩ = some (.map (some m))
  fz : ∀ o, w.frozen? ⟨t, o, none⟩ = false
  ne : t ≠ m
  tab : OwnT w m g
theorem NmAt.fr {S : Nat → Prop} {w w' : World} {t m : Nat} {nd cnt : Int} {g : Nat → Option RW} (h : NmAt w t nd cnt m g) (hf : Fr S w w') (h1 : ¬ S t) (h2 : ¬ S m) : NmAt w' t nd cnt m g :=
  ⟨hf.cell h.c0 h1, hf.cell h.c1 h1, hf.cell h.c2 h1, fun o => (hf.frozen (World.block_lt_of_cell? w _ h.c0) h1).trans (h.fz o), h.ne, h.tab.fr hf h2⟩
theorem NmAt.lt {w : World} {t m : Nat} {nd cnt : Int} {g : Nat → Option RW} (h : NmAt w t nd cnt m g) : t < w.heap.size := World.block_lt_of_cell? w _ h.c0
theorem OwnT.drew {w : World} {b : Nat} {g : Nat → Option RW} (h : OwnT w b g) : OwnT w.drew b g := by
  obtain ⟨D, h1, h2⟩ := h
  exact ⟨D, h1.drew, h2⟩
/-- what Find says -/
def findG (g : Nat → Option RW) (i : Nat) : Int × Int := match g i with
  | some r => if r.ref > 0 then (r.ref, 0) else (0, 4)
  | none => (0, 4)
end Go.Proofs.YthgbcgphkddmgaaGreat.Nm
namespace Go.Proofs.YthgbcgphkddmgaaGreat
open Go.RowKit
set_option linter.unusedVariables false
set_option linter.unusedSimpArgs false
/-- a runner: its state is leaves, by kind and number -/
structure RunS where
  pump : Bool
  st : List (Int × Int)
  sent : Nat
  waiting : Bool
  has : Bool
  num : Int
structure OutS where
  kind : Int
  num : Int
  text : ByteArray
  vk : Int
  vn : Int
def eS : ByteArray := ⟨#[]⟩
def outO (k n : Int) : OutS := ⟨k, n, ⟨#[]⟩, 0, 0⟩
def stN (l : List (Int × Int)) (i : Nat) : Int × Int := l.getD i (0, 0)
/-- Run, at some fuel -/
def runR (f : Nat) (r : RunS) : RunS × OutS :=
  if f = 0 then (r, outO 1 0)
  else if r.pump && decide ((r.sent : Int) < (stN r.st 2).2) then ({ r with sent := r.sent + 1 }, ⟨3, (stN r.st 0).2, ⟨#[]⟩, 2, wrap64 ((stN r.st 1).2 + ((r.sent : Int) + 1))⟩)
  else if r.has then ({ r with has := false }, outO 2 r.num)
  else ({ r with waiting := true }, outO 7 (-1))
def outC (o : OutS) : List Value := [.int .i64 o.kind, .int .i64 o.num, .string o.text, .int .i64 o.vk, .int .i64 o.vn, .string ⟨#[]⟩, .slice none 0 0, .slice none 0 0]
def stC (l : List (Int × Int)) (i : Nat) : List Value := [.int .i64 (stN l i).1, .int .i64 (stN l i).2, .string ⟨#[]⟩, .slice none 0 0]
/-- a state that lies in a block of S -/
def StAt (w : World) (S : Nat → Prop) (A : Option Addr) (c : Nat) (l : List (Int × Int)) : Prop :=
  l.length ≤ c ∧ c ≤ 9223372036854775807 ∧ (0 < l.length → ∃ b off, A = some ⟨b, off, none⟩ ∧ b < w.heap.size ∧ S b ∧ ∀ i, i < l.length → ∀ j u, (stC l i)[j]? = some u → w.cell? ⟨b, off + i * 4 + j, none⟩ = some u)
theorem StAt.fr {w w' : World} {D S S' : Nat → Prop} {A : Option Addr} {c : Nat} {l : List (Int × Int)} (h : StAt w S A c l) (hf : Fr D w w') (hD : ∀ k, S k → ¬ D k) (hS : ∀ k, S k → k < w.heap.size → S' k) : StAt w' S' A c l := by
  obtain ⟨h1, h2, h3⟩ := h
  refine ⟨h1, h2, fun h0 => ?_⟩
  obtain ⟨b, off, e, hb, hs, hc⟩ := h3 h0
  exact ⟨b, off, e, Nat.lt_of_lt_of_le hb hf.size, hS b hs hb, fun i hi j u hu => hf.cell (hc i hi j u hu) (hD b hs)⟩
/-- a runner at block b -/
structure RunAt (w : World) (b : Nat) (A : Option Addr) (c : Nat) (r : RunS) : Prop where
  c0 : w.cell? ⟨b, 0, none⟩ = some (.bool r.pump)
  c1 : w.cell? ⟨b, 1, none⟩ = some (.slice A r.st.length c)
  c2 : w.cell? ⟨b, 2, none⟩ = some (.int .i64 (r.sent : Int))
  c3 : w.cell? ⟨b, 3, none⟩ = some (.bool r.waiting)
  c4 : w.cell? ⟨b, 4, none⟩ = some (.bool r.has)
  c5 : w.cell? ⟨b, 5, none⟩ = some (.int .i64 r.num)
  fz : ∀ o, w.frozen? ⟨b, o, none⟩ = false
theorem RunAt.fr {S : Nat → Prop} {w w' : World} {b c : Nat} {A : Option Addr} {r : RunS} (h : RunAt w b A c r) (hf : Fr S w w') (hn : ¬ S b) : RunAt w' b A c r :=
  ⟨hf.cell h.c0 hn, hf.cell h.c1 hn, hf.cell h.c2 hn, hf.cell h.c3 hn, hf.cell h.c4 hn, hf.cell h.c5 hn, fun o => (hf.frozen (World.block_lt_of_cell? w _ h.c0) hn).trans (h.fz o)⟩
theorem RunAt.lt {w : World} {b c : Nat} {A : Option Addr} {r : RunS} (h : RunAt w b A c r) : b < w.heap.size := World.block_lt_of_cell? w _ h.c0
/-- what a runner keeps -/
structure RunOk (r : RunS) : Prop where
  p3 : r.pump = true → r.st.length = 3
  len : r.st.length ≤ 10
  wf : ∀ i, ((Lit.int .i64 (stN r.st i).2).wf = true)
theorem runR_st (f : Nat) (r : RunS) : (runR f r).1.st = r.st ∧ (runR f r).1.pump = r.pump := by
  unfold runR
  split
  · exact ⟨rfl, rfl⟩
  split
  · exact ⟨rfl, rfl⟩
  split <;> exact ⟨rfl, rfl⟩
theorem RunOk.run {r : RunS} (h : RunOk r) (f : Nat) : RunOk (runR f r).1 := by
  obtain ⟨e1, e2⟩ := runR_st f r
  exact ⟨by rw [e1, e2]; exact h.p3, by rw [e1]; exact h.len, by rw [e1]; exact h.wf⟩
theorem runR_kind (f : Nat) (r : RunS) : (runR f r).2.kind = 1 ∨ (runR f r).2.kind = 2 ∨ (runR f r).2.kind = 3 ∨ ((runR f r).2.kind = 7 ∧ (runR f r).1.waiting = true) := by
  unfold runR
  split
  · exact .inl rfl
  split
  · exact .inr (.inr (.inl rfl))
  split
  · exact .inr (.inl rfl)
  · exact .inr (.inr (.inr ⟨rfl, rfl⟩))
theorem runR_fuel (f : Nat) (r : RunS) : (runR f r).2.kind = 1 → (runR f r).1 = r := by
  unfold runR
  split
  · exact fun _ => rfl
  split
  · exact fun e => by cases e
  split
  · exact fun e => by cases e
  · exact fun e => by cases e
theorem Fr.setAt {q o : Nat} {w w1 : World} (h : Fr (fun k => k = q) w w1) (u : Value) : Fr (fun k => k = q) w (w1.setCell ⟨q, o, none⟩ u) := h.set (Or.inl rfl) u
set_option maxRecDepth 100000 in
set_option maxHeartbeats 4000000 in
theorem rvint_any (x : Int) (w : World) : Calls Tryz.prog 51 #[.int .i64 x] w fun e w' => e = .returned (.agg #[.int .i64 2, .int .i64 x, .string ⟨#[]⟩, .slice none 0 0]) ∧ Below w.heap.size w w' := by
  go_enter Tryz.func51, Tryz.ntmps51
  go_wp2_with fail
  refine bodyPost_ret (v := .agg #[.int .i64 2, .int .i64 x, .string ⟨#[]⟩, .slice none 0 0]) (by simp [results, Tryz.results51, go_sem]) rfl ⟨rfl, ?_⟩
  exact (Below.refl _ _).alloc (Nat.le_refl _) _
end Go.Proofs.YthgbcgphkddmgaaGreat
namespace Go.Proofs.YthgbcgphkddmgaaGreat
open Go.RowKit
set_option linter.unusedVariables false
set_option linter.unusedSimpArgs false
theorem outC_results {o : OutS} {W : World} {q : Nat} (h : ∀ j u, (outC o)[j]? = some u → W.cell? ⟨q, j, none⟩ = some u) {fn : Func} {tmps : Array Value} {s : Nat} (hr : fn.results = #[.cell s 206]) (ht : tmps.getD s undef = .pointer (some ⟨q, 0, none⟩)) : (results fn tmps).run Tryz.prog W = .ok (.agg (outC o).toArray) W := by
  rw [Array.getD_eq_getD_getElem?] at ht
  have r0 := h 0 _ rfl
  have r1 := h 1 _ rfl
  have r2 := h 2 _ rfl
  have r3 := h 3 _ rfl
  have r4 := h 4 _ rfl
  have r5 := h 5 _ rfl
  have r6 := h 6 _ rfl
  have r7 := h 7 _ rfl
  simp [results, hr, ht, go_sem, r0, r1, r2, r3, r4, r5, r6, r7, outC]
theorem Fr.setEq {b o : Nat} {w w1 : World} (h : Fr (fun k => k = b) w w1) (u : Value) : Fr (fun k => k = b) w (w1.setCell ⟨b, o, none⟩ u) := h.set (Or.inl rfl) u
theorem Fr.setNew {S : Nat → Prop} {o : Nat} {w w1 : World} (h : Fr S w w1) (u : Value) : Fr S w (w1.setCell ⟨w.heap.size, o, none⟩ u) := h.set (Or.inr (Nat.le_refl _)) u
theorem Fr.drewN {S : Nat → Prop} {w w1 : World} (h : Fr S w w1) (n : Nat) : Fr S w (w1.drewN n) := ⟨h.os, h.tape, h.output, h.size, h.block⟩
theorem cell_set2 {W : World} {a : Addr} (v v' : Value) (h : (W.cell? a).isSome = true) : ((W.setCell a v).setCell a v').cell? a = some v' := by
  obtain ⟨u, hu⟩ := Option.isSome_iff_exists.1 h
  exact World.cell?_setCell_same _ _ _ (World.cell?_setCell_same _ _ _ hu)
theorem results_two {P : Program} {fn : Func} {a b : Nat} (h : fn.results = #[.tmp a, .tmp b]) (tmps : Array Value) (w : World) : (results fn tmps).run P w = .ok (.tuple #[tmps.getD a undef, tmps.getD b undef]) w := by
  simp [results, h]
end Go.Proofs.YthgbcgphkddmgaaGreat
namespace Go.Proofs.YthgbcgphkddmgaaGreat
open Go.RowKit
set_option linter.unusedVariables false
set_option linter.unusedSimpArgs false
def giveR (r : RunS) (x : Int) : RunS := r
def lateR (r : RunS) : RunS := r
def offerR (r : RunS) (k x : Int) : RunS × Bool := if !r.pump && r.waiting && k == 2 then ({ r with waiting := false, has := true, num := x }, true) else (r, false)
/-- what Top tells -/
def topL (r : RunS) : List (Int × Int) := if r.pump then r.st.set 2 (2, 0) else r.st
theorem info_cloneV : (Tryz.prog.info? 36).map (fun i => (i.zero, i.size, i.bytes)) = some (some (.agg #[.int .i64 0, .int .i64 0, .string ⟨#[]⟩, .slice none 0 0]), 4, 56) := by kernel_rfl
set_option maxRecDepth 100000 in
set_option maxHeartbeats 400000 in
theorem cloneV (A : Option Addr) (n c : Nat) (g : Nat → List Value) (w : World) (hR : Rd w 4 g A n) (hl : ∀ k, (g k).length = 4) (h1 : ∀ k u, u ∈ g k → u.oneCell' = true)
    (hA : A = none → n = 0) (hn : n * 56 ≤ 140737488355328) :
    Calls Tryz.prog 253 #[.slice A n c] w (ClonePost 36 4 n (flatC g n) w) := by
  obtain ⟨i0, hi, hz0, hz1, hz2⟩ := info_parts info_cloneV
  have hnil := fun (w : World) => Lib.run_eql_slice_nil (P := Tryz.prog) w
  cases A with
  | none =>
    obtain rfl := hA rfl
    clear hR hl h1 hA hi hz0 hz1 hz2 hn
    go_enter Tryz.func253, Tryz.ntmps253
    go_wp2_with fail
    go_ret
    exact ⟨_, rfl, World.ownsRow_nil _ _ _ _, Below.refl _ _⟩
  | some a =>
    have hn0 : ∀ (o : Obj) j u, (flatC g n)[j]? = some u → (w.alloc o).cell? (a.add j) = some u := fun o j u hu => by
      obtain ⟨q1, q2, q3⟩ := flatC_at hl (by omega) hu
      obtain ⟨b, off, hab, hb, hc⟩ := hR (by omega)
      injection hab with hab
      subst hab
      have e : (⟨b, off, none⟩ : Addr).add j = ⟨b, off + j / 4 * 4 + j % 4, none⟩ := by
        have := Nat.div_add_mod' j 4
        unfold Addr.add
        split
        · rename_i h; subst h; simp
        · simp; omega
      rw [e, World.cell?_alloc_lt _ _ _ hb]
      exact hc _ q1 _ _ q3
    have HN := Lib.hid hn0
    have H1 := Lib.hid h1
    have HL := Lib.hid (flatC_length hl n)
    clear hR hl h1 hA hn0
    go_enter Tryz.func253, Tryz.ntmps253
    go_wp2_with (at_builtin; refine wpList_append_own _ rfl _ _ 34 rfl w.heap.size 36 i0 _ 4 56 Tryz.underlying34 hi hz0 hz1 hz2 rfl (by omega) (.slice (some ⟨w.heap.size, 0, none⟩) 0 0) 0 [] rfl (World.ownsRow_lit w #[] 0 (Nat.le_refl _) (by simp [maxLen]) rfl) a n c (flatC g n) rfl HL.out (HN.out _) (fun u hu => by obtain ⟨k, _, hk⟩ := flatC_mem hu; exact H1.out k u hk) (by unfold maxLen; omega) (by omega) (by simp) ?_; intro v1 w1 hown hgrow _; simp only [Nat.zero_add, List.nil_append] at hown)
    go_ret
    exact ⟨v1, rfl, hown, ((Below.refl _ _).alloc (Nat.le_refl _) _).grown hgrow (by simp) (by simp [Value.ownBlock])⟩

set_option maxRecDepth 100000 in
set_option maxHeartbeats 4000000 in
theorem late_any (b c : Nat) (A : Option Addr) (r : RunS) (w : World) (H : RunAt w b A c r) : Calls Tryz.prog 257 #[.pointer (some ⟨b, 0, none⟩)] w fun e w' => e = .returned (.tuple #[]) ∧ RunAt w' b A c (lateR r) ∧ Fr (fun k => k = b) w w' := by
  have HH := Lib.hid H
  clear H
  go_enter Tryz.func257, Tryz.ntmps257
  go_wp2_with fail
  refine bodyPost_end (results_none rfl _ _ _) rfl ⟨rfl, HH.out, Fr.refl _ _⟩
set_option maxRecDepth 100000 in
set_option maxHeartbeats 4000000 in
theorem offer_any (b c : Nat) (A A2 : Option Addr) (n2 c2 : Nat) (r : RunS) (k x : Int) (t : ByteArray) (w : World) (H : RunAt w b A c r) : Calls Tryz.prog 258 #[.pointer (some ⟨b, 0, none⟩), .agg #[.int .i64 k, .int .i64 x, .string t, .slice A2 n2 c2]] w fun e w' => e = .returned (.bool (offerR r k x).2) ∧ RunAt w' b A c (offerR r k x).1 ∧ Fr (fun k => k = b) w w' := by
  have HH := Lib.hid H
  have c0 := H.c0
  have c1 := H.c1
  have c2 := H.c2
  have c3 := H.c3
  have c4 := H.c4
  have c5 := H.c5
  have fz := H.fz
  have hlt := H.lt
  have hne : b ≠ w.heap.size := by omega
  have hne' : w.heap.size ≠ b := by omega
  clear H
  obtain ⟨p, hp⟩ : ∃ p, r.pump = p := ⟨_, rfl⟩
  obtain ⟨q, hq⟩ : ∃ q, r.waiting = q := ⟨_, rfl⟩
  obtain ⟨z, hz⟩ : ∃ z, (k == 2) = z := ⟨_, rfl⟩
  rw [hp] at c0
  rw [hq] at c3
  have HM1 := Lib.hid (fun (e : (!p && q && z) = true) => show offerR r k x = ({ r with waiting := false, has := true, num := x }, true) by unfold offerR; rw [hp, hq, hz, if_pos e])
  have HM2 := Lib.hid (fun (e : (!p && q && z) = false) => show offerR r k x = (r, false) by unfold offerR; rw [hp, hq, hz, if_neg (by rw [e]; decide)])
  have HP := Lib.hid (And.intro hp hq)
  have hk2 : (k != 2) = !z := by rw [← hz]; rfl
  clear hp hq
  rcases hg : (!p && q && z) with _ | _
  · have HE := Lib.hid (HM2.out hg)
    clear HM1 HM2
    rcases p with _ | _ <;> rcases q with _ | _ <;> rcases z with _ | _
    all_goals (first | (cases hg; done) | skip)
    all_goals
      clear hg
      go_enter Tryz.func258, Tryz.ntmps258
      go_wp2_with fail
      go_ret
      rw [HE.out]
      exact ⟨rfl, HH.out.fr (S := fun _ => False) ((Fr.refl _ w).alloc _) (fun h => h), (Fr.refl _ w).alloc _⟩
  · have HE := Lib.hid (HM1.out hg)
    obtain ⟨rfl, rfl, rfl⟩ : p = false ∧ q = true ∧ z = true := by
      rcases p with _ | _ <;> rcases q with _ | _ <;> rcases z with _ | _ <;> first | exact ⟨rfl, rfl, rfl⟩ | cases hg
    clear HM1 HM2 hg
    go_enter Tryz.func258, Tryz.ntmps258
    go_wp2_with fail
    go_region
    all_goals
      go_wp2_with fail
      go_ret
      rw [HE.out]
      have hpe := HP.out.1
      refine ⟨rfl, ?_, ?_⟩
      · (constructor; all_goals (first | (intro o; simp [go_sem, hlt, hne, fz]; done) | (simp [go_sem, hlt, hne, hne', *]; done) | (simp [go_sem, hlt, hne, hne', *]; omega) | (rw [World.cell?_drew]; simp [go_sem, cell_set2, hlt, hne, hne', *]; done) | (simp [go_sem, cell_set2, hlt, hne, hne', *]; done) | skip))
      · (repeat' first | with_reducible exact Fr.refl _ _ | (with_reducible refine Fr.setEq ?_ _) | (with_reducible refine Fr.setNew ?_ _) | with_reducible refine Fr.alloc ?_ _ | with_reducible refine Fr.drewN ?_ _ | with_reducible refine Fr.drew ?_)
theorem topL_len (r : RunS) : (topL r).length = r.st.length := by
  unfold topL
  split <;> simp
def TopPost (r : RunS) (w : World) (e : Ending) (w' : World) : Prop :=
  (r.waiting = false ∧ e = .returned (.tuple #[.slice none 0 0, .bool false]) ∧ w' = w) ∨
  (r.waiting = true ∧ ∃ A c, e = .returned (.tuple #[.slice A r.st.length c, .bool true]) ∧ r.st.length ≤ c ∧ c ≤ 9223372036854775807 ∧ StAt w' (fun b => w.heap.size ≤ b) A c (topL r) ∧ Below w.heap.size w w')
set_option maxRecDepth 100000 in
set_option maxHeartbeats 4000000 in
theorem top_any (b c : Nat) (A : Option Addr) (S : Nat → Prop) (r : RunS) (w : World) (H : RunAt w b A c r) (HS : StAt w S A c r.st) (ok : RunOk r) : Calls Tryz.prog 260 #[.pointer (some ⟨b, 0, none⟩)] w (TopPost r w) := by
  have HH := Lib.hid H
  have c0 := H.c0
  have c1 := H.c1
  have c3 := H.c3
  have hlt := H.lt
  have HST := Lib.hid HS
  have HOK := Lib.hid ok
  have HRD := Lib.hid (show Rd w 4 (fun i => stC r.st i) A r.st.length from fun h0 => by
    obtain ⟨sb, so, e, hb, _, hc⟩ := HS.2.2 h0
    exact ⟨sb, so, e, hb, hc⟩)
  have hA0 : A = none → r.st.length = 0 := fun e => by
    by_cases h0 : 0 < r.st.length
    · obtain ⟨sb, so, e2, _⟩ := HS.2.2 h0
      rw [e] at e2
      cases e2
    · omega
  have h10 := ok.len
  clear H HS ok
  obtain ⟨q, hq⟩ : ∃ q, r.waiting = q := ⟨_, rfl⟩
  rw [hq] at c3
  have HQ := Lib.hid hq
  rcases q with _ | _
  · clear hq
    go_enter Tryz.func260, Tryz.ntmps260
    go_wp2_with fail
    refine bodyPost_ret (results_two Tryz.results260 _ _) rfl (.inl ⟨HQ.out, rfl, rfl⟩)
  · have HCL := Lib.hid (cloneV A r.st.length c (fun i => stC r.st i) w HRD.out (fun _ => rfl) (fun k u hu => by
      simp [stC] at hu
      rcases hu with rfl | rfl | rfl | rfl <;> rfl) hA0 (by omega))
    obtain ⟨p, hp⟩ : ∃ p, r.pump = p := ⟨_, rfl⟩
    rw [hp] at c0
    have HP := Lib.hid hp
    clear hq hA0 hp
    go_enter Tryz.func260, Tryz.ntmps260
    go_wp2_with fail
    refine HCL.out.mono ?_
    rintro e w1 ⟨v, rfl, hown, hb1⟩
    have HB1 := Lib.hid hb1
    have hf1 : Fr (fun _ => False) w w1 := Fr.of_below hb1
    have c0' := hf1.cell c0 (fun h => h)
    have hl1 := Nat.lt_of_lt_of_le hlt hf1.size
    obtain ⟨A', c', rfl, hc1, hc2, _⟩ := own_any hown
    have HOW := Lib.hid hown
    rcases p with _ | _
    · have HTL := Lib.hid (show topL r = r.st by unfold topL; rw [HP.out]; rfl)
      clear hown hb1 HCL c0 c1 c3
      go_wp2_with fail
      refine bodyPost_ret (results_two Tryz.results260 _ _) rfl (.inr ⟨HQ.out, A', c', rfl, hc1, hc2, ?_, HB1.out⟩)
      rw [HTL.out]
      refine ⟨hc1, hc2, fun h0 => ?_⟩
      obtain ⟨g, cap, hv, hb, hgl, _⟩ := own_form HOW.out h0
      injection hv with e1 _ e3
      subst e1 e3
      exact ⟨g, 0, rfl, hgl, hb, fun i hi j u hu => by
        have hj : j < 4 := (List.getElem?_eq_some_iff.1 hu).1
        rw [Nat.zero_add, own_cellC HOW.out (fun _ => rfl) hi hj]
        exact hu⟩
    · have h3 := HOK.out.p3 HP.out
      have HTL := Lib.hid (show topL r = r.st.set 2 (2, 0) by unfold topL; rw [HP.out]; rfl)
      obtain ⟨g, cap, hv, hb, hgl, _⟩ := own_form HOW.out (by omega)
      injection hv with e1 _ e3
      subst e1 e3
      have H3 := Lib.hid h3
      have g8 := own_cellC HOW.out (fun _ => rfl) (k := 2) (j := 0) (by omega) (by omega)
      have g9 := own_cellC HOW.out (fun _ => rfl) (k := 2) (j := 1) (by omega) (by omega)
      have g10 := own_cellC HOW.out (fun _ => rfl) (k := 2) (j := 2) (by omega) (by omega)
      have g11 := own_cellC HOW.out (fun _ => rfl) (k := 2) (j := 3) (by omega) (by omega)
      simp only [Nat.reduceMul, Nat.reduceAdd, Nat.add_zero] at g8 g9 g10 g11
      have gf : ∀ o, w1.frozen? ⟨g, o, none⟩ = false := fun o => World.ownsRow.frozenAt HOW.out o
      rw [h3]
      clear hown hb1 HCL c0 c1 c3 h3
      go_wp2_with fail
      refine (rvint_any 0 w1).mono ?_
      rintro e w2 ⟨rfl, hb2⟩
      have hf2 : Fr (fun _ => False) w1 w2 := Fr.of_below hb2
      have k8 := hf2.cell g8 (fun h => h)
      have k9 := hf2.cell g9 (fun h => h)
      have k10 := hf2.cell g10 (fun h => h)
      have k11 := hf2.cell g11 (fun h => h)
      have kf : ∀ o, w2.frozen? ⟨g, o, none⟩ = false := fun o => (hf2.frozen hgl (fun h => h)).trans (gf o)
      have hg2 := Nat.lt_of_lt_of_le hgl hf2.size
      have HB2 := Lib.hid hb2
      clear g8 g9 g10 g11 gf hb2
      go_wp2_with fail
      have HF2 := Lib.hid hf2
      refine bodyPost_ret (results_two Tryz.results260 _ _) rfl (.inr ⟨HQ.out, some ⟨g, 0, none⟩, c', by rw [H3.out]; rfl, by omega, hc2, ?_, ?_⟩)
      · rw [HTL.out]
        refine ⟨by rw [List.length_set]; exact hc1, hc2, fun h0 => ⟨g, 0, rfl, by simp; omega, hb, fun i hi j u hu => ?_⟩⟩
        have hj : j < 4 := (List.getElem?_eq_some_iff.1 hu).1
        rw [List.length_set] at hi
        have hi3 : i < 3 := by have := H3.out; omega
        rw [Nat.zero_add]
        by_cases h2 : i = 2
        · subst h2
          have e : stN (r.st.set 2 (2, 0)) 2 = (2, 0) := by
            unfold stN
            rw [List.getD_eq_getElem?_getD, List.getElem?_set]
            simp [H3.out]
          unfold stC at hu
          rw [e] at hu
          rcases j with _ | _ | _ | _ | j
          all_goals (simp at hu)
          all_goals (try (subst hu; simp [go_sem, k8, k9, k10, k11]; done))
        · have e : stN (r.st.set 2 (2, 0)) i = stN r.st i := by
            unfold stN
            rw [List.getD_eq_getElem?_getD, List.getElem?_set, if_neg (by omega), List.getD_eq_getElem?_getD]
          unfold stC at hu
          rw [e] at hu
          have hc := HF2.out.cell ((own_cellC HOW.out (fun _ => rfl) hi hj).trans hu) (fun h => h)
          iterate 4 (rw [World.cell?_setCell_other _ _ _ _ (by intro h; injection h with _ h; omega)])
          exact hc
      · iterate 4 (refine below_set ?_ hb)
        exact HB1.out.trans (HB2.out.mono HB1.out.size)
end Go.Proofs.YthgbcgphkddmgaaGreat
namespace Go.Proofs.YthgbcgphkddmgaaGreat
open Go.RowKit
set_option linter.unusedVariables false
set_option linter.unusedSimpArgs false
def RunPost (p : RunS × OutS) (b : Nat) (A : Option Addr) (c : Nat) (w : World) (e : Ending) (w' : World) : Prop :=
  e = .returned (.agg (outC p.2).toArray) ∧ RunAt w' b A c p.1 ∧ Fr (fun k => k = b) w w'
set_option maxRecDepth 100000 in
set_option maxHeartbeats 4000000 in
theorem run_any (b c f : Nat) (A : Option Addr) (S : Nat → Prop) (r : RunS) (w : World) (H : RunAt w b A c r) (HS : StAt w S A c r.st) (hS : ∀ k, S k → k ≠ b) (ok : RunOk r) (hf : f ≤ 1000000) : Calls Tryz.prog 259 #[.pointer (some ⟨b, 0, none⟩), .int .i64 (f : Int)] w (RunPost (runR f r) b A c w) := by
  have HH := Lib.hid H
  have c0 := H.c0
  have c1 := H.c1
  have c2 := H.c2
  have c3 := H.c3
  have c4 := H.c4
  have c5 := H.c5
  have fz := H.fz
  have hlt := H.lt
  have hne : b ≠ w.heap.size := by omega
  have hne' : w.heap.size ≠ b := by omega
  have h3 := HS.2.2
  have hp3 := ok.p3
  clear H HS
  by_cases hf0 : f = 0
  · have HE := Lib.hid (show runR f r = (r, outO 1 0) by unfold runR; rw [if_pos hf0])
    have e1 : decide ((f : Int) < 1) = true := decide_eq_true (by omega)
    clear hf0 h3 hp3
    go_enter Tryz.func259, Tryz.ntmps259
    go_wp2_with fail
    refine bodyPost_ret (outC_results (o := outO 1 0) (q := w.heap.size) (fun j u hj => ?_) rfl rfl) rfl ?_
    · rcases j with _ | _ | _ | _ | _ | _ | _ | _ | j
      all_goals (simp [outC, outO] at hj)
      all_goals (subst hj; simp [go_sem])
    · rw [HE.out]
      exact ⟨rfl, HH.out.fr (S := fun _ => False) ((Fr.refl _ w).alloc _) (fun h => h), (Fr.refl _ w).alloc _⟩
  · have e1 : decide ((f : Int) < 1) = false := decide_eq_false (by omega)
    have HF0 := Lib.hid hf0
    have HB := Lib.hid (fun (hh : ¬ (r.pump && decide ((r.sent : Int) < (stN r.st 2).2)) = true) => show runR f r = if r.has then ({ r with has := false }, outO 2 r.num) else ({ r with waiting := true }, outO 7 (-1)) by unfold runR; rw [if_neg hf0, if_neg hh])
    rcases hp : r.pump with _ | _
    · have HE := Lib.hid (HB.out (by rw [hp]; simp))
      rw [hp] at c0
      have HP := Lib.hid hp
      clear hp h3 hp3 hf0 HB
      rcases hh : r.has with _ | _
      · rw [hh] at c4 HE
        have HHS := Lib.hid hh
        clear hh
        go_enter Tryz.func259, Tryz.ntmps259
        go_wp2_with fail
        go_quiet (fail)
        go_wp2_with fail
        refine bodyPost_ret (outC_results (o := outO 7 (-1)) (q := w.heap.size) (fun j u hj => ?_) rfl rfl) rfl ?_
        · rcases j with _ | _ | _ | _ | _ | _ | _ | _ | j
          all_goals (simp [outC, outO] at hj)
          all_goals (subst hj; simp [go_sem, hne, hne'])
        · rw [HE.out]
          have hpe := HP.out
          have hhe := HHS.out
          refine ⟨rfl, ?_, ?_⟩
          · (constructor; all_goals (first | (intro o; simp [go_sem, hlt, hne, fz]; done) | (simp [go_sem, hlt, hne, hne', *]; done) | (simp [go_sem, hlt, hne, hne', *]; omega) | (rw [World.cell?_drew]; simp [go_sem, cell_set2, hlt, hne, hne', *]; done) | (simp [go_sem, cell_set2, hlt, hne, hne', *]; done) | skip))
          · (repeat' first | with_reducible exact Fr.refl _ _ | (with_reducible refine Fr.setEq ?_ _) | (with_reducible refine Fr.setNew ?_ _) | with_reducible refine Fr.alloc ?_ _ | with_reducible refine Fr.drewN ?_ _ | with_reducible refine Fr.drew ?_)
      · rw [hh] at c4 HE
        have HHS := Lib.hid hh
        clear hh
        go_enter Tryz.func259, Tryz.ntmps259
        go_wp2_with fail
        go_quiet (fail)
        go_wp2_with fail
        refine bodyPost_ret (outC_results (o := outO 2 r.num) (q := w.heap.size) (fun j u hj => ?_) rfl rfl) rfl ?_
        · rcases j with _ | _ | _ | _ | _ | _ | _ | _ | j
          all_goals (simp [outC, outO] at hj)
          all_goals (subst hj; simp [go_sem, hne, hne'])
        · rw [HE.out]
          have hpe := HP.out
          have hhe := HHS.out
          refine ⟨rfl, ?_, ?_⟩
          · (constructor; all_goals (first | (intro o; simp [go_sem, hlt, hne, fz]; done) | (simp [go_sem, hlt, hne, hne', *]; done) | (simp [go_sem, hlt, hne, hne', *]; omega) | (rw [World.cell?_drew]; simp [go_sem, cell_set2, hlt, hne, hne', *]; done) | (simp [go_sem, cell_set2, hlt, hne, hne', *]; done) | skip))
          · (repeat' first | with_reducible exact Fr.refl _ _ | (with_reducible refine Fr.setEq ?_ _) | (with_reducible refine Fr.setNew ?_ _) | with_reducible refine Fr.alloc ?_ _ | with_reducible refine Fr.drewN ?_ _ | with_reducible refine Fr.drew ?_)
    · have h3p := hp3 hp
      obtain ⟨sb, so, rfl, hsb, hsS, hsc⟩ := h3 (by omega)
      have hnb : sb ≠ b := hS sb hsS
      have s00 := hsc 0 (by omega) 1 _ rfl
      have s10 := hsc 1 (by omega) 1 _ rfl
      have s20 := hsc 2 (by omega) 1 _ rfl
      simp only [Nat.zero_mul, Nat.add_zero, Nat.one_mul, Nat.reduceMul, Nat.reduceAdd] at s00 s10 s20
      rw [hp] at c0
      rw [h3p] at c1
      have HP := Lib.hid hp
      have H3P := Lib.hid h3p
      obtain ⟨m, hm⟩ : ∃ m, (stN r.st 2).2 = m := ⟨_, rfl⟩
      rw [hm] at s20
      have hmb : m ≤ 9223372036854775807 := by
        have h := ok.wf 2
        rw [hm] at h
        exact (Wf.low h).2
      by_cases hlm : (r.sent : Int) < m
      · have HE := Lib.hid (show runR f r = ({ r with sent := r.sent + 1 }, ⟨3, (stN r.st 0).2, ⟨#[]⟩, 2, wrap64 ((stN r.st 1).2 + ((r.sent : Int) + 1))⟩) by unfold runR; rw [if_neg hf0, if_pos (by rw [hp, hm, decide_eq_true hlm]; rfl)])
        have e2 : decide ((r.sent : Int) < m) = true := decide_eq_true hlm
        have i3 : IntKind.i64.wrap ((r.sent : Int) + 1) = (r.sent : Int) + 1 := by rw [IntWalk.i64_in _ ⟨by omega, by omega⟩]
        clear hp h3 hp3 hf0 HB hsc hm h3p hlm
        go_enter Tryz.func259, Tryz.ntmps259
        go_wp2_with fail
        go_quiet (fail)
        go_wp2_with fail
        obtain ⟨W5, hW5⟩ : ∃ W5, W5 = ((w.alloc (.cells #[.int .i64 0, .int .i64 0, .string ⟨#[]⟩, .int .i64 0, .int .i64 0, .string ⟨#[]⟩, .slice none 0 0, .slice none 0 0] 206)).drewN nq).setCell ⟨b, 2, none⟩ (.int .i64 ((r.sent : Int) + 1)) := ⟨_, rfl⟩
        have hf5 : Fr (fun k => k = b) w W5 := by rw [hW5]; (repeat' first | with_reducible exact Fr.refl _ _ | (with_reducible refine Fr.setEq ?_ _) | (with_reducible refine Fr.setNew ?_ _) | with_reducible refine Fr.alloc ?_ _ | with_reducible refine Fr.drewN ?_ _ | with_reducible refine Fr.drew ?_)
        have hq5 : w.heap.size < W5.heap.size := by rw [hW5]; simp
        have HR5 := Lib.hid (show RunAt W5 b (some ⟨sb, so, none⟩) c { r with sent := r.sent + 1 } by
          have hpe := HP.out
          have h3e := H3P.out
          rw [hW5]
          (constructor; all_goals (first | (intro o; simp [go_sem, hlt, hne, fz]; done) | (simp [go_sem, hlt, hne, hne', *]; done) | (simp [go_sem, hlt, hne, hne', *]; omega) | (rw [World.cell?_drew]; simp [go_sem, cell_set2, hlt, hne, hne', *]; done) | (simp [go_sem, cell_set2, hlt, hne, hne', *]; done) | skip)))
        have HQ5 := Lib.hid (show ∀ j u, ([.int .i64 0, .int .i64 0, .string ⟨#[]⟩, .int .i64 0, .int .i64 0, .string ⟨#[]⟩, .slice none 0 0, .slice none 0 0] : List Value)[j]? = some u → W5.cell? ⟨w.heap.size, j, none⟩ = some u from fun j u hj => by
          rw [hW5]
          rcases j with _ | _ | _ | _ | _ | _ | _ | _ | j
          all_goals (simp at hj)
          all_goals (subst hj; simp [go_sem, hne, hne']))
        have HZ5 := Lib.hid (show ∀ o, W5.frozen? ⟨w.heap.size, o, none⟩ = false from fun o => by rw [hW5]; simp [go_sem, hne, hne'])
        have HF5 := Lib.hid hf5
        have s00 := hf5.cell s00 hnb
        have s10 := hf5.cell s10 hnb
        have d1 := HR5.out.c1
        have d2 := HR5.out.c2
        rw [show (({ r with sent := r.sent + 1 } : RunS).st.length) = 3 from H3P.out] at d1
        have hsq : w.heap.size ≠ sb := by omega
        have hsq' : sb ≠ w.heap.size := by omega
        have hsb5 : sb < W5.heap.size := Nat.lt_of_lt_of_le hsb hf5.size
        have hlt5 : b < W5.heap.size := Nat.lt_of_lt_of_le hlt hf5.size
        rw [← hW5]
        clear hW5 hf5 c0 c1 c2 c3 c4 c5 s20 fz
        go_region_held3 (fun W => W.cell? ⟨b, 1, none⟩ = some (.slice (some ⟨sb, so, none⟩) 3 c) ∧ W.cell? ⟨b, 2, none⟩ = some (.int .i64 ((r.sent : Int) + 1)) ∧ W.cell? ⟨sb, so + 1, none⟩ = some (.int .i64 (stN r.st 0).2) ∧ W.cell? ⟨sb, so + 4 + 1, none⟩ = some (.int .i64 (stN r.st 1).2))
          (first | with_reducible exact ⟨d1, d2, s00, s10⟩ | with_reducible exact ⟨d1', d2', s00', s10'⟩ | (simp [go_sem, hne, hne', hsq, hsq', d1', d2', s00', s10']; done) | go_keep)
          (first
          | (go_at_call 51; refine (rvint_any _ _).mono ?_; rintro e w1 ⟨rfl, hb1⟩; have HB1 := Lib.hid (show Fr (fun _ => False) W5 w1 from (show Fr (fun _ => False) W5 _ by (repeat' first | with_reducible exact Fr.refl _ _ | (with_reducible refine Fr.setEq ?_ _) | (with_reducible refine Fr.setNew ?_ _) | with_reducible refine Fr.alloc ?_ _ | with_reducible refine Fr.drewN ?_ _ | with_reducible refine Fr.drew ?_)).trans' (Fr.of_below hb1)); have d1' := HB1.out.cell d1 (fun h => h); have d2' := HB1.out.cell d2 (fun h => h); have s00' := HB1.out.cell s00 (fun h => h); have s10' := HB1.out.cell s10 (fun h => h); have hl1 := Nat.lt_of_lt_of_le hlt5 HB1.out.size; have hs1 := Nat.lt_of_lt_of_le hsb5 HB1.out.size; have hq1 := Nat.lt_of_lt_of_le hq5 HB1.out.size; have q0 := HB1.out.cell (HQ5.out 0 _ rfl) (fun h => h); have q1 := HB1.out.cell (HQ5.out 1 _ rfl) (fun h => h); have q2 := HB1.out.cell (HQ5.out 2 _ rfl) (fun h => h); have q3 := HB1.out.cell (HQ5.out 3 _ rfl) (fun h => h); have q4 := HB1.out.cell (HQ5.out 4 _ rfl) (fun h => h); have q5 := HB1.out.cell (HQ5.out 5 _ rfl) (fun h => h); have q6 := HB1.out.cell (HQ5.out 6 _ rfl) (fun h => h); have q7 := HB1.out.cell (HQ5.out 7 _ rfl) (fun h => h); have qf := (fun o => (HB1.out.frozen (b := w.heap.size) (o := o) hq5 (fun h => h)).trans (HZ5.out o)); clear hb1))
        all_goals
          go_wp2_with fail
          refine bodyPost_ret (outC_results (o := ⟨3, (stN r.st 0).2, ⟨#[]⟩, 2, wrap64 ((stN r.st 1).2 + ((r.sent : Int) + 1))⟩) (q := w.heap.size) (fun j u hj => ?_) rfl rfl) rfl ?_
          · rcases j with _ | _ | _ | _ | _ | _ | _ | _ | j
            all_goals (simp [outC] at hj)
            all_goals (subst hj; simp [go_sem, q0, q1, q2, q3, q4, q5, q6, q7, hq1, IntWalk.i64_left])
          · rw [HE.out]
            have HFr := Lib.hid (HF5.out.trans' (HB1.out.weak (S2 := fun k => k = b) (fun _ h => h.elim)))
            refine ⟨rfl, (HR5.out.fr HB1.out (fun h => h)).fr (S := fun k => k = w.heap.size) ?_ hne, ?_⟩
            · (repeat' first | with_reducible exact Fr.refl (fun k => k = _) _ | (with_reducible refine Fr.setAt ?_ _) | with_reducible refine Fr.alloc ?_ _ | with_reducible refine Fr.drewN ?_ _ | with_reducible refine Fr.drew ?_)
            · (repeat' first | with_reducible exact HFr.out | (with_reducible refine Fr.setEq ?_ _) | (with_reducible refine Fr.setNew ?_ _) | with_reducible refine Fr.alloc ?_ _ | with_reducible refine Fr.drewN ?_ _ | with_reducible refine Fr.drew ?_)
      · have HE := Lib.hid (HB.out (by rw [hp, hm, decide_eq_false hlm]; simp))
        have e2 : decide ((r.sent : Int) < m) = false := decide_eq_false hlm
        have h3e := H3P.out
        clear hp h3 hp3 hf0 HB hsc hm h3p hlm s00 s10
        rcases hh : r.has with _ | _
        · rw [hh] at c4 HE
          have HHS := Lib.hid hh
          clear hh h3e
          go_enter Tryz.func259, Tryz.ntmps259
          go_wp2_with fail
          go_quiet (fail)
          go_wp2_with fail
          refine bodyPost_ret (outC_results (o := outO 7 (-1)) (q := w.heap.size) (fun j u hj => ?_) rfl rfl) rfl ?_
          · rcases j with _ | _ | _ | _ | _ | _ | _ | _ | j
            all_goals (simp [outC, outO] at hj)
            all_goals (subst hj; simp [go_sem, hne, hne'])
          · rw [HE.out]
            have hpe := HP.out
            have hhe := HHS.out
            have h3e := H3P.out
            refine ⟨rfl, ?_, ?_⟩
            · (constructor; all_goals (first | (intro o; simp [go_sem, hlt, hne, fz]; done) | (simp [go_sem, hlt, hne, hne', *]; done) | (simp [go_sem, hlt, hne, hne', *]; omega) | (rw [World.cell?_drew]; simp [go_sem, cell_set2, hlt, hne, hne', *]; done) | (simp [go_sem, cell_set2, hlt, hne, hne', *]; done) | skip))
            · (repeat' first | with_reducible exact Fr.refl _ _ | (with_reducible refine Fr.setEq ?_ _) | (with_reducible refine Fr.setNew ?_ _) | with_reducible refine Fr.alloc ?_ _ | with_reducible refine Fr.drewN ?_ _ | with_reducible refine Fr.drew ?_)
        · rw [hh] at c4 HE
          have HHS := Lib.hid hh
          clear hh h3e
          go_enter Tryz.func259, Tryz.ntmps259
          go_wp2_with fail
          go_quiet (fail)
          go_wp2_with fail
          refine bodyPost_ret (outC_results (o := outO 2 r.num) (q := w.heap.size) (fun j u hj => ?_) rfl rfl) rfl ?_
          · rcases j with _ | _ | _ | _ | _ | _ | _ | _ | j
            all_goals (simp [outC, outO] at hj)
            all_goals (subst hj; simp [go_sem, hne, hne'])
          · rw [HE.out]
            have hpe := HP.out
            have hhe := HHS.out
            have h3e := H3P.out
            refine ⟨rfl, ?_, ?_⟩
            · (constructor; all_goals (first | (intro o; simp [go_sem, hlt, hne, fz]; done) | (simp [go_sem, hlt, hne, hne', *]; done) | (simp [go_sem, hlt, hne, hne', *]; omega) | (rw [World.cell?_drew]; simp [go_sem, cell_set2, hlt, hne, hne', *]; done) | (simp [go_sem, cell_set2, hlt, hne, hne', *]; done) | skip))
            · (repeat' first | with_reducible exact Fr.refl _ _ | (with_reducible refine Fr.setEq ?_ _) | (with_reducible refine Fr.setNew ?_ _) | with_reducible refine Fr.alloc ?_ _ | with_reducible refine Fr.drewN ?_ _ | with_reducible refine Fr.drew ?_)
end Go.Proofs.YthgbcgphkddmgaaGreat
