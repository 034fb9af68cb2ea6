/- One that waits for a letter that does not come: its box keeps all letters in order. Where the law NodeOrder stands: a node with one that waits, and the letters that were sent. A slice of letters, and a value, as arguments. The walk of the law NodeOrder. -/
import Derived.Test.YtjjfglbcikaicaaGreatMS
import Derived.Test.YtjjfglbcikaicaaGreatMF
import Derived.Test.YtjjfglbcikaicaaGreatMJ
import Derived.Test.YtjjfglbcikaicaaGreatMB
import Derived.Test.YtjjfglbcikaicaaGreatOpen
import Derived.Test.YtjjfglbcikaicaaGreatMD
import Derived.Test.YtjjfglbcikaicaaGreatMI
import Derived.Deep.AppendLies
namespace Go.Proofs.YtjjfglbcikaicaaGreat
open Go.RowKit
set_option linter.unusedVariables false
set_option linter.unusedSimpArgs false
/-- the script: a wait for -7 -/
def scrO : List Stp := [⟨6, 0, -1, [-7]⟩]
/-- where it waits -/
def ordD (r : Int) : DiaS := ⟨⟨#[48]⟩, scrO, ⟨0, 0, r, true, false, false, 7, -1, ⟨#[]⟩⟩, 7, -1⟩
def ordA (r : Int) (l : List LT) (pos : Nat) : ActS := ⟨r, ordD r, l, pos, true, -1, fun x => x == 0⟩
/-- the node with one that waits -/
def ordN (id fuel : Nat) (l : List LT) : NdS := { newN id [scrO] fuel with acts := [ordA (id * 1000 + 1) l l.length], rows := addR [] (id * 1000 + 1), spawned := 1, last := id * 1000 + 1 }
def ord0 (id fuel : Nat) : NdS := { newN id [scrO] fuel with acts := [⟨id * 1000 + 1, newD ⟨#[48]⟩ scrO 0 0 (id * 1000 + 1), [], 0, false, 0, fun _ => false⟩], rows := addR [] (id * 1000 + 1), spawned := 1 }
/-- no letter that it takes -/
def NoTake (x : LT) : Prop := vkind x.says ≠ 2
theorem offer_ord (r : Int) {v : VT} (h : vkind v ≠ 2) : offerD (ordD r) v = (ordD r, false) := by
  have h2 : offerR scrO (ordD r).r (vkind v) (vnum v) = ((ordD r).r, false) := by
    unfold offerR
    rw [if_pos (show (ordD r).r.waiting = true from rfl), if_neg]
    rintro (e | e)
    · cases e
    · exact h e.1
  unfold offerD
  rw [if_pos (show (ordD r).dk = 7 from rfl)]
  dsimp only
  rw [show (ordD r).l = scrO from rfl, h2]
  rfl
theorem goA_ord (r : Int) {l : List LT} {pos : Nat} (h : ∀ x, x ∈ l → NoTake x) : goA (ordA r l pos) = (ordA r l l.length, false) := by
  have hp : pickI (ordA r l pos).d (ordA r l pos).box ((ordA r l pos).box.length + 1) (ordA r l pos).pos = none := pickI_none _ _ (fun j h1 h2 => by
    show (offerD (ordD r) (nthL l j).says).2 = false
    rw [offer_ord r (h _ (nthL_mem h2))])
  unfold goA
  rw [if_pos (show (ordA r l pos).waits = true from rfl)]
  unfold wakeA
  rw [hp]
  rfl
/-- a turn of one that waits -/
theorem loop_ord {N : NdS} {r : Int} {l : List LT} {pos : Nat} (k : Nat) (ha : N.acts = [ordA r l pos]) (h : ∀ x, x ∈ l → NoTake x) : loopN (k + 1) N r = { N with acts := [ordA r l l.length] } := by
  have hf : N.find r = some (ordA r l pos) := by
    unfold NdS.find
    rw [ha]
    exact List.find?_cons_of_pos (by simp [ordA])
  have hh : N.has r = true := by unfold NdS.has; rw [hf]; rfl
  have hg := goA_ord r (pos := pos) h
  have hs : stepN N r = ({ N with acts := [ordA r l l.length] }, false) := by
    rw [stepN_no hf (by rw [hg]), hg]
    unfold NdS.setA
    rw [ha]
    show ({ N with acts := [if (r == r) = true then _ else _] }, false) = _
    rw [if_pos (by simp)]
  unfold loopN
  rw [if_pos hh, hs, if_neg Bool.false_ne_true]
theorem spawn_ord {id fuel : Nat} : spawnN (newN id [scrO] fuel) ⟨#[48]⟩ = (ord0 id fuel, (id : Int) * 1000 + 1, 0) := by
  unfold spawnN
  have hm : makeN (newN id [scrO] fuel).scr ⟨#[48]⟩ = some scrO := by kernel_rfl
  rw [hm]
  dsimp only
  have hr : (newN (id : Int) [scrO] fuel).id * 1000 + ((newN (id : Int) [scrO] fuel).spawned : Int) + 1 = (id : Int) * 1000 + 1 := by
    show (id : Int) * 1000 + ((0 : Nat) : Int) + 1 = _
    omega
  rw [hr]
  rfl
theorem put_ord {N : NdS} {a : ActS} {x : LT} (ha : N.acts = [a]) (hk : x.kind = 1) (ht : x.to = a.ref) (hl : a.box.length < 60) : putN N x = ({ N with acts := [{ a with box := a.box ++ [x] }] }, 0) := by
  have hf : N.find x.to = some a := by
    unfold NdS.find
    rw [ha, ht]
    exact List.find?_cons_of_pos (by simp)
  unfold putN
  rw [if_neg (by omega), hf]
  dsimp only
  rw [if_neg (by omega)]
  unfold deliverN deliverW
  rw [if_pos (.inl hk), hf]
  dsimp only
  have hp : putBox a x = { a with box := a.box ++ [x] } := by
    unfold putBox
    rw [if_neg (by omega)]
  rw [hp]
  unfold NdS.setA
  rw [ha]
  show ({ N with acts := [if (a.ref == a.ref) = true then _ else _] }, (0 : Int)) = _
  rw [if_pos (by simp)]
theorem turn_one {N : NdS} {a : ActS} (ha : N.acts = [a]) (hc : canA a = true) : turnN N = (loopN N.fuel { N with last := a.ref } a.ref, a.ref, 0) := by
  have hr : readyN N = [a.ref] := by
    unfold readyN
    rw [ha]
    rw [List.filter_cons_of_pos hc]
    rfl
  unfold turnN
  rw [hr, if_neg (by simp)]
  have hn : nextI [a.ref] N.last = a.ref := by
    unfold nextI
    by_cases h : N.last < a.ref
    · simp [h]
    · simp [h]
  dsimp only
  rw [hn]
/-- the first turn -/
theorem turn_ord0 {id fuel : Nat} {l : List LT} (hf : 2 ≤ fuel) (h : ∀ x, x ∈ l → NoTake x) : (turnN { ord0 id fuel with acts := [⟨id * 1000 + 1, newD ⟨#[48]⟩ scrO 0 0 (id * 1000 + 1), l, 0, false, 0, fun _ => false⟩] }).1 = ordN id fuel l := by
  obtain ⟨f, rfl⟩ : ∃ f, fuel = f + 2 := ⟨fuel - 2, by omega⟩
  rw [turn_one (a := ⟨id * 1000 + 1, newD ⟨#[48]⟩ scrO 0 0 (id * 1000 + 1), l, 0, false, 0, fun _ => false⟩) rfl rfl]
  show loopN (f + 1 + 1) _ _ = _
  generalize hr : (id : Int) * 1000 + 1 = r
  have hh : ∀ N : NdS, ∀ a : ActS, N.acts = [a] → a.ref = r → N.find r = some a := fun N a e1 e2 => by
    unfold NdS.find
    rw [e1]
    exact List.find?_cons_of_pos (by simpa using e2)
  have hs : ∀ N : NdS, N.fuel = f + 2 → N.acts = [⟨r, newD ⟨#[48]⟩ scrO 0 0 r, l, 0, false, 0, fun _ => false⟩] → stepN N r = ({ N with acts := [ordA r l 0] }, true) := fun N e1 e2 => by
    have hf0 := hh N _ e2 rfl
    rw [stepN_go hf0 rfl]
    have hd : runD N.fuel (goA ⟨r, newD ⟨#[48]⟩ scrO 0 0 r, l, 0, false, 0, fun _ => false⟩).1.d = (ordD r, ⟨7, -1, ⟨#[]⟩, 0, 0⟩) := by
      rw [e1]
      rfl
    unfold ranA
    rw [hd]
    unfold armN
    simp only [show ((7 : Int) = 2) = False by simp, show ((7 : Int) = 3) = False by simp, show ((7 : Int) = 5) = False by simp, show ((7 : Int) = 6) = False by simp, show ((7 : Int) = 4) = False by simp, if_false, if_true]
    unfold NdS.setA
    simp only [e2, goA, List.map, Bool.false_eq_true, if_false, waitA, BEq.rfl, beq_self_eq_true, if_true]
    simp
    rfl
  unfold loopN
  rw [if_pos (by unfold NdS.has; rw [hh _ _ rfl rfl]; rfl), hs _ rfl rfl]
  rw [if_pos rfl, loop_ord f rfl h]
  unfold ordN ord0
  rw [hr]
/-- a letter more, and a turn -/
theorem turn_ordN {id fuel : Nat} {l : List LT} {x : LT} (hf : 1 ≤ fuel) (h : ∀ y, y ∈ l → NoTake y) (hx : NoTake x) (hk : x.kind = 1) (ht : x.to = id * 1000 + 1) (hl : l.length < 60) : (putN (ordN id fuel l) x).2 = 0 ∧ (turnN (putN (ordN id fuel l) x).1).1 = ordN id fuel (l ++ [x]) := by
  have hp := put_ord (N := ordN id fuel l) (a := ordA (id * 1000 + 1) l l.length) rfl hk ht hl
  rw [hp]
  refine ⟨rfl, ?_⟩
  have hc : canA { ordA (id * 1000 + 1) l l.length with box := (ordA (id * 1000 + 1) l l.length).box ++ [x] } = true := by
    unfold canA
    have : l.length < (l ++ [x]).length := by simp
    show (!true || decide (l.length < (l ++ [x]).length) || _) = true
    rw [decide_eq_true this]
    rfl
  rw [turn_one (a := { ordA (id * 1000 + 1) l l.length with box := (ordA (id * 1000 + 1) l l.length).box ++ [x] }) rfl hc]
  obtain ⟨f, rfl⟩ : ∃ f, fuel = f + 1 := ⟨fuel - 1, by omega⟩
  show loopN (f + 1) _ (id * 1000 + 1) = _
  rw [loop_ord (r := id * 1000 + 1) (l := l ++ [x]) (pos := l.length) f rfl (fun y hy => by
    rcases List.mem_append.1 hy with hy | hy
    · exact h y hy
    · rw [List.mem_singleton] at hy
      rw [hy]
      exact hx)]
  rfl
end Go.Proofs.YtjjfglbcikaicaaGreat
namespace Go.Proofs.YtjjfglbcikaicaaGreat
open Go.RowKit
set_option linter.unusedVariables false
set_option linter.unusedSimpArgs false
/-- the node behind the letters L -/
def ordS (id fuel : Nat) (L : List LT) : NdS := if L = [] then ord0 id fuel else ordN id fuel L
/-- a letter as the law sends it -/
def ordX (id : Nat) (x : LT) : LT := ⟨1, x.frm, id * 1000 + 1, x.num, x.text, if vkind x.val = 2 then vLeaf 0 0 else x.val⟩
theorem ordX_no (id : Nat) (x : LT) : NoTake (ordX id x) := by
  unfold NoTake
  rw [says_val (show ¬ (ordX id x).kind = 2 from (fun e => by cases e))]
  show vkind (if vkind x.val = 2 then vLeaf 0 0 else x.val) ≠ 2
  split
  · intro e; cases e
  · rename_i h; exact h
theorem ordS_up {id fuel : Nat} {L : List LT} {x : LT} (hf : 2 ≤ fuel) (h : ∀ y, y ∈ L → NoTake y) (hx : NoTake x) (hk : x.kind = 1) (ht : x.to = (id : Int) * 1000 + 1) (hl : L.length < 60) : (putN (ordS id fuel L) x).2 = 0 ∧ (turnN (putN (ordS id fuel L) x).1).1 = ordS id fuel (L ++ [x]) := by
  have e2 : ordS id fuel (L ++ [x]) = ordN id fuel (L ++ [x]) := by
    unfold ordS
    rw [if_neg (by simp)]
  rw [e2]
  by_cases h0 : L = []
  · subst h0
    have e1 : ordS id fuel [] = ord0 id fuel := by
      unfold ordS
      rw [if_pos rfl]
    rw [e1]
    have hp := put_ord (N := ord0 id fuel) (a := ⟨(id : Int) * 1000 + 1, newD ⟨#[48]⟩ scrO 0 0 ((id : Int) * 1000 + 1), [], 0, false, 0, fun _ => false⟩) rfl hk ht (by show 0 < 60; omega)
    rw [hp]
    exact ⟨rfl, turn_ord0 (l := [x]) hf (fun y hy => by rw [List.mem_singleton] at hy; rw [hy]; exact hx)⟩
  · have e1 : ordS id fuel L = ordN id fuel L := by
      unfold ordS
      rw [if_neg h0]
    rw [e1]
    exact turn_ordN (by omega) h hx hk ht hl
theorem ordS_find {id fuel : Nat} {L : List LT} : ∃ a, (ordS id fuel L).find ((id : Int) * 1000 + 1) = some a ∧ a.box = L := by
  unfold ordS
  split
  · rename_i h
    subst h
    exact ⟨⟨(id : Int) * 1000 + 1, newD ⟨#[48]⟩ scrO 0 0 ((id : Int) * 1000 + 1), [], 0, false, 0, fun _ => false⟩, List.find?_cons_of_pos (by simp), rfl⟩
  · exact ⟨ordA ((id : Int) * 1000 + 1) L L.length, List.find?_cons_of_pos (by simp [ordA]), rfl⟩
theorem scrO_wf : ∀ l, l ∈ [scrO] → StpsWf l := fun l hl => by
  rw [List.mem_singleton] at hl
  subst hl
  intro s hs
  simp [scrO] at hs
  subst hs
  exact ⟨wf0, show Wf (-1) from Wf.of (by decide) (by decide)⟩
/-- a row of letters that the law itself made; their values lie in blocks of S -/
structure SentR (w : World) (base : Nat) (S : Nat → Prop) (v : Value) (L : List LT) (C : Nat → List Value) : Prop where
  row : w.ownsRow base 43 9 v L.length (flatC C L.length)
  len : ∀ i, (C i).length = 9
  each : ∀ i, i < L.length → (nthL L i).isL w S (C i)
theorem SentR.nil (w : World) (base : Nat) (S : Nat → Prop) : SentR w base S (.slice none 0 0) [] (fun _ => List.replicate 9 (.int .i64 0)) := ⟨World.ownsRow_nil _ _ _ _, fun _ => rfl, fun i hi => absurd hi (by show ¬ i < 0; omega)⟩
theorem SentR.fr {w w' : World} {base : Nat} {S D : Nat → Prop} {v : Value} {L : List LT} {C : Nat → List Value} (h : SentR w base S v L C) (hf : Fr D w w') (hr : ∀ k, v.ownBlock = some k → ¬ D k) (hS : ∀ k, S k → ¬ D k) : SentR w' base S v L C :=
  ⟨hf.row h.row hr, h.len, fun i hi => isL_frame hf.size (fun b hb hlt => ⟨hb, hf.block b hlt (hS b hb)⟩) (h.each i hi)⟩
theorem isL_weak {w : World} {S S' : Nat → Prop} {l : LT} {cs : List Value} (h : l.isL w S cs) (hS : ∀ b, b < w.heap.size → S b → S' b) : l.isL w S' cs := isL_frame (Nat.le_refl _) (fun b hs hlt => ⟨hS b hlt hs, rfl⟩) h
theorem SentR.rd {w : World} {base n c : Nat} {A : Option Addr} {S : Nat → Prop} {L : List LT} {C : Nat → List Value} (h : SentR w base S (.slice A n c) L C) : n = L.length ∧ RdL w (fun _ => True) A L.length (nthL L) := by
  obtain ⟨A', c', hv, _⟩ := own_any h.row
  injection hv with e1 e2 e3
  subst e1 e2 e3
  refine ⟨rfl, fun h0 => ?_⟩
  obtain ⟨g, cap, hv, hb, hlt, _⟩ := own_form h.row h0
  injection hv with e1 e2 e3
  subst e1 e3
  exact ⟨g, 0, rfl, hlt, trivial, C, fun i hi => ⟨isL_weak (h.each i hi) (fun _ _ _ => trivial), fun j u hu => by
    have hj : j < 9 := by
      rcases Nat.lt_or_ge j 9 with hh | hh
      · exact hh
      · rw [List.getElem?_eq_none (by rw [h.len]; exact hh)] at hu; cases hu
    have := own_cellC h.row h.len hi hj
    rw [Nat.zero_add, this]
    exact hu⟩⟩
/-- a letter more -/
theorem SentR.snoc {w w' : World} {base : Nat} {S : Nat → Prop} {v v' : Value} {L : List LT} {C : Nat → List Value} {x : LT} {cs : List Value} (h : SentR w base S v L C) (hx : x.isL w S cs) (hg : w.grownBy w' v.ownBlock) (hS : ∀ k, v.ownBlock = some k → ¬ S k) (hr : w'.ownsRow base 43 9 v' (L.length + 1) (flatC C L.length ++ cs)) :
    SentR w' base S v' (L ++ [x]) (fun i => if i = L.length then cs else C i) := by
  have hl9 := isL_len hx
  refine ⟨?_, fun i => ?_, fun i hi => ?_⟩
  · rw [List.length_append]
    have e : flatC (fun i => if i = L.length then cs else C i) (L.length + [x].length) = flatC C L.length ++ cs := by
      show flatC (fun i => if i = L.length then cs else C i) (L.length + 1) = _
      rw [flatC]
      congr 1
      · exact flatC_congr fun k hk => by rw [if_neg (by omega)]
      · rw [if_pos rfl]
    rw [e]
    exact hr
  · by_cases e : i = L.length
    · rw [if_pos e]; exact hl9
    · rw [if_neg e]; exact h.len i
  · have hfr : ∀ (l : LT) (c : List Value), l.isL w S c → l.isL w' S c := fun l c hl => isL_frame hg.size (fun b hb hlt => ⟨hb, hg.block b hlt (fun e => hS b e.symm hb)⟩) hl
    rw [List.length_append] at hi
    have hi' : i < L.length + 1 := hi
    by_cases e : i = L.length
    · subst e
      rw [if_pos rfl]
      have : nthL (L ++ [x]) L.length = x := by unfold nthL; simp
      rw [this]
      exact hfr x cs hx
    · rw [if_neg e]
      have : nthL (L ++ [x]) i = nthL L i := by
        unfold nthL
        rw [List.getD_eq_getElem?_getD, List.getD_eq_getElem?_getD, List.getElem?_append_left (by omega)]
      rw [this]
      exact hfr _ _ (h.each i (by omega))
structure OrdAtW (W0 : World) (base p T id fuel : Nat) (wr : World) (P : Int → Nat) (X M : Nat → Prop) (v : Value) (L : List LT) (C : Nat → List Value) : Prop where
  fr : Fr (fun k => W0.heap.size ≤ k) W0 wr
  ml : ∀ k, M k → W0.heap.size ≤ k
  nd : NodeAt wr X M base T p P (ordS id fuel L)
  no : ∀ y, y ∈ L → NoTake y
  row : SentR wr base (fun k => k < W0.heap.size) v L C
  blk : ∀ k, v.ownBlock = some k → X k ∧ ¬ M k
section
variable {W0 : World} {base p T id fuel : Nat} {w w' : World} {P P' : Int → Nat} {X M X' M' : Nat → Prop} {v : Value} {L : List LT} {C : Nat → List Value}
theorem OrdAtW.new (h : OrdAtW W0 base p T id fuel w P X M v L C) (hf : Fr (fun _ => False) w w') : OrdAtW W0 base p T id fuel w' P X M v L C :=
  ⟨h.fr.trans hf (fun _ h => h.elim), h.ml, h.nd.new hf (fun _ h => h), h.no, h.row.fr hf (fun _ _ h => h) (fun _ _ h => h), h.blk⟩
/-- a letter was put, it is sent, and a turn -/
theorem OrdAtW.step {N5 : NdS} {w5 w6 w7 : World} {x : LT} {cs : List Value} {v' : Value} {T' : Nat} (h : OrdAtW W0 base p T id fuel w P X M v L C) (hb : W0.heap.size ≤ base) (hx : x.isL w (fun k => k < W0.heap.size) cs) (hnx : NoTake x) (hg1 : Gr X M w X' M' w5) (hn1 : NodeAt w5 X' M' base T' p P N5) (ha : Fr (fun _ => False) w5 w6)
    (hg : w6.grownBy w7 v.ownBlock) (hr : w7.ownsRow base 43 9 v' (L.length + 1) (flatC C L.length ++ cs)) (hat : v'.ownBlock = v.ownBlock ∨ ∃ q, v'.ownBlock = some q ∧ w6.heap.size ≤ q) :
    Fr (fun k => W0.heap.size ≤ k) W0 w7 ∧ (∀ k, M' k → W0.heap.size ≤ k) ∧ (∃ X7, NodeAt w7 X7 M' base T' p P N5 ∧ (∀ k, v'.ownBlock = some k → X7 k ∧ ¬ M' k)) ∧ SentR w7 base (fun k => k < W0.heap.size) v' (L ++ [x]) (fun i => if i = L.length then cs else C i) := by
  have hrb : ∀ k, v.ownBlock = some k → base ≤ k ∧ k < w.heap.size := fun k hk => h.row.row.lt k hk
  have hnm : ∀ k, v.ownBlock = some k → X' k ∧ ¬ M' k := fun k hk => ⟨hg1.up k (h.blk k hk).1, fun hm => by
    rcases hg1.ms k hm with hh | hh
    · exact (h.blk k hk).2 hh
    · have := (hrb k hk).2; omega⟩
  have hfr1 : Fr (fun k => W0.heap.size ≤ k) W0 w5 := h.fr.trans (hg1.fr.weak (fun k hk => h.ml k hk)) (fun k hk => .inl hk)
  have hml : ∀ k, M' k → W0.heap.size ≤ k := fun k hk => by
    rcases hg1.ms k hk with hh | hh
    · exact h.ml k hh
    · have := h.fr.size; omega
  have hs5 : SentR w6 base (fun k => k < W0.heap.size) v L C := (h.row.fr hg1.fr (fun k hk => (h.blk k hk).2) (fun k hk hm => by have := h.ml k hm; omega)).fr ha (fun _ _ h => h) (fun _ _ h => h)
  have hx6 : x.isL w6 (fun k => k < W0.heap.size) cs := isL_frame (Nat.le_trans hg1.fr.size ha.size) (fun b hb hlt => ⟨hb, (ha.block b (Nat.lt_of_lt_of_le hlt hg1.fr.size) (fun h => h)).trans (hg1.fr.block b hlt (fun hm => by have := h.ml b hm; omega))⟩) hx
  have hn6 := hn1.new ha (fun _ h => h)
  have hf7 : Fr (fun k => v.ownBlock = some k) w6 w7 := Fr.of_grown hg (fun k hk => .inl hk)
  refine ⟨?_, hml, ⟨XW X' w6 w7, hn6.fr hf7 (fun k hk => ⟨(hnm k hk).1, (hrb k hk).1⟩) (fun k hk => .inl hk) (fun k hk => hk) (fun k hk e => (hnm k e).2 hk), fun k hk => ?_⟩, hs5.snoc hx6 hg (fun k hk hs => by have := (hrb k hk).1; omega) hr⟩
  · exact (hfr1.trans ha (fun _ h => h.elim)).trans (hf7.weak (S2 := fun k => W0.heap.size ≤ k) (fun k hk => by have := (hrb k hk).1; omega)) (fun k hk => .inl hk)
  · rcases hat with e | ⟨q, e, hq⟩
    · rw [e] at hk
      exact ⟨.inl (hnm k hk).1, (hnm k hk).2⟩
    · rw [e] at hk
      injection hk with hk
      subst hk
      refine ⟨.inr ⟨hq, (hr.lt q (by rw [e])).2⟩, fun hm => ?_⟩
      have := hn6.xlt q (hn6.2.2.1 q hm).1
      omega
theorem OrdAtW.after {w7 w8 : World} {X7 X8 M8 : Nat → Prop} {P8 : Int → Nat} {v' : Value} {L' : List LT} {C' : Nat → List Value} (h1 : Fr (fun k => W0.heap.size ≤ k) W0 w7) (h2 : ∀ k, M' k → W0.heap.size ≤ k) (h4 : ∀ k, v'.ownBlock = some k → X7 k ∧ ¬ M' k) (h5 : SentR w7 base (fun k => k < W0.heap.size) v' L' C') (hno : ∀ y, y ∈ L' → NoTake y) (hg8 : Gr X7 M' w7 X8 M8 w8) (hn8 : NodeAt w8 X8 M8 base T p P8 (ordS id fuel L')) : OrdAtW W0 base p T id fuel w8 P8 X8 M8 v' L' C' where
  fr := h1.trans (hg8.fr.weak (fun k hk => h2 k hk)) (fun k hk => .inl hk)
  ml k hk := by
    rcases hg8.ms k hk with hh | hh
    · exact h2 k hh
    · have := h1.size; omega
  nd := hn8
  no := hno
  row := h5.fr hg8.fr (fun k hk => (h4 k hk).2) (fun k hk hm => by have := h2 k hm; omega)
  blk k hk := ⟨hg8.up k (h4 k hk).1, fun hm => by
    rcases hg8.ms k hm with hh | hh
    · exact (h4 k hk).2 hh
    · have := (h5.row.lt k hk).2; omega⟩
end
end Go.Proofs.YtjjfglbcikaicaaGreat
namespace Go.Proofs.YtjjfglbcikaicaaGreat
open Go.RowKit Go.ChangeShapes Go.WideShapes
set_option linter.unusedVariables false
section
variable {H : Type} {enc : TypeId × Value → H} {W : World} {held : Bool}
theorem field_eqL {P : Program} {n t o o' z z' : Nat} {cs : List Value} {r : Option (DataW H × List MemPlace)} (h : DataW.trod enc P W 0 (fun _ => true) held n t ((cs.drop o).take z) = r) (ho : o = o') (hz : z = z') : DataW.trod enc P W 0 (fun _ => true) held n t ((cs.drop o').take z') = r := by
  subst ho hz; exact h
set_option maxRecDepth 100000 in
theorem open_letterW {fuel : Nat} {cs : List Value} {x : DataW H × List MemPlace} (h : DataW.trod enc Tryz.prog W 0 (fun _ => true) held fuel 43 cs = some x) :
    ∃ l : LT, l.isL W (fun _ => True) cs ∧ l.val.many ≤ Rows.uptoBulk x.1 ∧ Wf l.frm ∧ Wf l.to ∧ Wf l.num ∧ l.val.wf := by
  obtain ⟨xs, n, hfu, hx, hlen, hxl, hf⟩ := DataW.trod_struct Tryz.underlying43 h
  have hl9 : cs.length = 9 := hlen.trans (by kernel_rfl)
  have hx6 : xs.length = 6 := hxl
  match cs, hl9, xs, hx6 with
  | [c0, c1, c2, c3, c4, c5, c6, c7, c8], _, [x0, x1, x2, x3, x4, x5], _ =>
    have h0 := field_eqL (hf 0 _ rfl) (o' := 0) (z' := 1) rfl (by kernel_rfl)
    have h1 := field_eqL (hf 1 _ rfl) (o' := 1) (z' := 1) rfl (by kernel_rfl)
    have h2 := field_eqL (hf 2 _ rfl) (o' := 2) (z' := 1) rfl (by kernel_rfl)
    have h3 := field_eqL (hf 3 _ rfl) (o' := 3) (z' := 1) rfl (by kernel_rfl)
    have h4 := field_eqL (hf 4 _ rfl) (o' := 4) (z' := 1) rfl (by kernel_rfl)
    have h5 := field_eqL (hf 5 _ rfl) (o' := 5) (z' := 4) rfl (by kernel_rfl)
    obtain ⟨z0, e0, _, g0⟩ := DataW.trod_int Tryz.underlying3 h0
    obtain ⟨z1, e1, _, g1⟩ := DataW.trod_int Tryz.underlying3 h1
    obtain ⟨z2, e2, _, g2⟩ := DataW.trod_int Tryz.underlying3 h2
    obtain ⟨z3, e3, _, g3⟩ := DataW.trod_int Tryz.underlying3 h3
    obtain ⟨s4, e4, _, _⟩ := DataW.trod_string Tryz.underlying9 h4
    obtain ⟨v, hv, hm, hwf⟩ := open_valW n _ _ h5
    have hv' : v.isV W (fun _ => True) [c5, c6, c7, c8] := hv
    obtain ⟨k2, m2, s2, A2, n2, c2', hc⟩ := isV_cells hv'
    simp at e0 e1 e2 e3 e4 hc
    obtain ⟨rfl, rfl, rfl, rfl⟩ := hc
    subst e0 e1 e2 e3 e4
    refine ⟨⟨z0, z1, z2, z3, s4, v⟩, ⟨k2, m2, s2, A2, n2, c2', rfl, hv'⟩, ?_, g1, g2, g3, hwf⟩
    rw [hx]
    simp only [List.map, Rows.uptoBulk, Rows.uptoBulkAll]
    omega
set_option maxRecDepth 100000 in
theorem open_lettersW {fuel : Nat} {cs : List Value} {x : DataW H × List MemPlace} (h : DataW.trod enc Tryz.prog W 0 (fun _ => true) held fuel 45 cs = some x) :
    ∃ A n c arg, cs = [.slice A n c] ∧ n ≤ c ∧ c ≤ 9223372036854775807 ∧ (A = none → n = 0) ∧ RdL W (fun _ => True) A n arg ∧ (∀ i, i < n → (arg i).val.many ≤ Rows.uptoBulk x.1 ∧ Wf (arg i).frm ∧ Wf (arg i).to ∧ Wf (arg i).num ∧ (arg i).val.wf) := by
  obtain ⟨A, n, c, C, E, e3, hnc, hcm, hA, hR, hlenC, hel, hbulk⟩ := open_rows_bulk (sz := 9) Tryz.underlying45 (by kernel_rfl) (by omega) h
  have hch : ∀ i, ∃ l : LT, i < n → l.isL W (fun _ => True) (C i) ∧ l.val.many ≤ Rows.uptoBulk (E i) ∧ Wf l.frm ∧ Wf l.to ∧ Wf l.num ∧ l.val.wf := fun i => by
    by_cases hi : i < n
    · obtain ⟨m, pl, hm, ht⟩ := hel i hi
      obtain ⟨l, h5⟩ := open_letterW ht
      exact ⟨l, fun _ => h5⟩
    · exact ⟨⟨0, 0, 0, 0, ⟨#[]⟩, .none⟩, fun h => absurd h hi⟩
  obtain ⟨F, hF⟩ := Classical.axiomOfChoice hch
  refine ⟨A, n, c, F, e3, hnc, hcm, hA, fun h0 => ?_, fun i hi => ?_⟩
  · obtain ⟨b, off, hAb, hb, hcell⟩ := hR h0
    exact ⟨b, off, hAb, hb, trivial, C, fun i hi => ⟨(hF i hi).1, hcell i hi⟩⟩
  · obtain ⟨_, h1, h2⟩ := hF i hi
    have h3 : Rows.uptoBulk (E i) ≤ sumTo (fun i => Rows.uptoBulk (E i)) n := le_sumTo (g := fun i => Rows.uptoBulk (E i)) hi
    exact ⟨by omega, h2⟩
end
end Go.Proofs.YtjjfglbcikaicaaGreat
namespace Go.Proofs.YtjjfglbcikaicaaGreat
open Go.RowKit Go.ChangeShapes Go.WideShapes
set_option linter.unusedVariables false
set_option linter.unusedSimpArgs false
/-- the letters sent up to round i -/
def sentL (larg : Nat → LT) (i : Nat) : List LT := (List.range i).map fun j => ordX 2 (larg j)
theorem sentL_len (larg : Nat → LT) (i : Nat) : (sentL larg i).length = i := by simp [sentL]
theorem sentL_up (larg : Nat → LT) (i : Nat) : sentL larg (i + 1) = sentL larg i ++ [ordX 2 (larg i)] := by unfold sentL; rw [List.range_succ, List.map_append]; rfl
theorem allTo_same {w : World} {S : Nat → Prop} {A : Option Addr} {n : Nat} {arg : Nat → LT} (h : RdL w S A n arg) : (n == n && allTo (fun i => sameLB (arg i) (arg i)) n) = true := by
  have h1 : allTo (fun i => sameLB (arg i) (arg i)) n = true := by
    rw [allTo_true]
    intro i hi
    obtain ⟨b, off, _, _, _, C, hC⟩ := h (by omega)
    exact sameLB_refl (hC i hi).1
  simp [h1]
/-- the law's own letter lies in block q -/
def OrdBox (w : World) (q : Nat) (S : Nat → Prop) (y : LT) : Prop := ∃ cs, y.isL w S cs ∧ ∀ j u, cs[j]? = some u → w.cell? ⟨q, j, none⟩ = some u
theorem isV_kind {w : World} {S : Nat → Prop} {t : VT} {k m : Int} {s : ByteArray} {v : Value} (h : t.isV w S [.int .i64 k, .int .i64 m, .string s, v]) : vkind t = k := by
  cases t with
  | none => exact h.elim
  | node k' m' s' n' arg =>
    obtain ⟨A, c, e, _⟩ := h
    injection e with e
    injection e with _ e
    exact e.symm
theorem nine_of {w : World} {q : Nat} {c0 c1 c2 c3 c4 c5 c6 c7 c8 : Value} (h0 : w.cell? ⟨q, 0, none⟩ = some c0) (h1 : w.cell? ⟨q, 1, none⟩ = some c1) (h2 : w.cell? ⟨q, 2, none⟩ = some c2) (h3 : w.cell? ⟨q, 3, none⟩ = some c3) (h4 : w.cell? ⟨q, 4, none⟩ = some c4) (h5 : w.cell? ⟨q, 5, none⟩ = some c5) (h6 : w.cell? ⟨q, 6, none⟩ = some c6) (h7 : w.cell? ⟨q, 7, none⟩ = some c7) (h8 : w.cell? ⟨q, 8, none⟩ = some c8) : ∀ j u, [c0, c1, c2, c3, c4, c5, c6, c7, c8][j]? = some u → w.cell? ⟨q, j, none⟩ = some u := fun j u hu => by
  match j, hu with
  | 0, hu => injection hu with hu; subst hu; exact h0
  | 1, hu => injection hu with hu; subst hu; exact h1
  | 2, hu => injection hu with hu; subst hu; exact h2
  | 3, hu => injection hu with hu; subst hu; exact h3
  | 4, hu => injection hu with hu; subst hu; exact h4
  | 5, hu => injection hu with hu; subst hu; exact h5
  | 6, hu => injection hu with hu; subst hu; exact h6
  | 7, hu => injection hu with hu; subst hu; exact h7
  | 8, hu => injection hu with hu; subst hu; exact h8
/-- where the law's loop ends -/
def OrdEnd (W : World) (base p : Nat) (v : Value) (w : World) : Prop := ∃ T P X M L C A c, T ≤ 100000000000 ∧ v = .slice A L.length c ∧ L.length ≤ 60 ∧ OrdAtW W base p T 2 5 w P X M v L C
set_option maxRecDepth 100000 in
set_option maxHeartbeats 16000000 in
theorem nodeOrder_walk {H : Type} {enc : TypeId × Value → H} (W : World) (base : Nat) (v0 : Value) {d0 : DataW H} {p0 : List MemPlace}
    (k0 : Value.okWide Tryz.prog W .any base 45 v0) (h0 : DataW.Trod enc Tryz.prog W 0 (fun _ => true) true 45 v0 d0 p0) (hk : Rows.uptoSmall H [d0] = true) :
    Calls Tryz.prog 6 #[v0] W fun e W' => e = .returned (.bool true) ∧ Below W.heap.size W W' := by
  have b0 : Rows.uptoBulk d0 ≤ 1048576 := by
    have h := of_decide_eq_true hk
    simp only [Rows.uptoBulkAll] at h
    omega
  obtain ⟨a0, l0, cp0, rfl⟩ := okWide_slice Tryz.underlying45 k0
  obtain ⟨fuel, hf⟩ := h0
  obtain ⟨LA, ln, lc, larg, e1, hlc, hlm, -, hL, hml⟩ := open_lettersW hf
  have hv : Value.slice a0 l0 cp0 = .slice LA ln lc := by simpa [Value.cells] using e1
  rw [hv]
  have HL := Lib.hid hL
  have HML := Lib.hid hml
  have HB0 := Lib.hid (show ∀ i, i < ln → (larg i).val.many ≤ 4194304 from fun i hi => by have : (larg i).val.many ≤ Rows.uptoBulk d0 := (hml i hi).1; omega)
  clear hk b0 k0 hf e1 hv hL hml
  go_enter Tryz.func6, Tryz.ntmps6
  go_wp2_with fail
  refine (nodes_any W).mono ?_
  rintro e w1 ⟨rfl, hb1⟩
  have HB1 := Lib.hid hb1
  clear hb1
  have hz1 := HB1.out.size
  obtain ⟨W2, hW2⟩ : ∃ W2, W2 = ((w1.alloc (.cells #[.int .i64 (-7)] 3)).alloc (.cells #[.int .i64 6, .int .i64 0, .int .i64 (-1), .slice (some ⟨w1.heap.size, 0, none⟩) 1 1] 28)).alloc (.cells #[.slice (some ⟨w1.heap.size + 1, 0, none⟩) 1 1] 29) := ⟨_, rfl⟩
  have hb2 : Below w1.heap.size w1 W2 := by rw [hW2]; exact (((Below.refl _ _).alloc (Nat.le_refl _) _).alloc (by simp) _).alloc (by simp; omega) _
  have hz2 : W2.heap.size = w1.heap.size + 3 := by rw [hW2]; simp
  have hscr : ScrsAt W2 (w1.heap.size + 3) (some ⟨w1.heap.size + 2, 0, none⟩) 1 [scrO] := by
    refine scrs_one (b := w1.heap.size + 2) (A := some ⟨w1.heap.size + 1, 0, none⟩) (l := scrO) (vo := fun _ => .slice (some ⟨w1.heap.size, 0, none⟩) 1 1) (n := 1) (c := 1) rfl (by omega) (by rw [hW2]; simp [go_sem]) (scrAt_new (n := 1) rfl (by omega) (by omega) (fun j u hu => ?_) (fun k hk => ?_))
    · rw [hW2]
      have h := cell_newL (w1.alloc (.cells #[.int .i64 (-7)] 3)) (flatC (stC scrO (fun _ => .slice (some ⟨w1.heap.size, 0, none⟩) 1 1)) 1) 28 (w1.heap.size + 1) (by simp) j u hu
      rw [Addr.add_lit, Nat.zero_add] at h
      exact (World.cell?_alloc_lt _ _ ⟨w1.heap.size + 1, j, none⟩ (by simp)).trans h
    · have hk' : k < 1 := hk
      obtain rfl : k = 0 := by omega
      refine ⟨some ⟨w1.heap.size, 0, none⟩, 1, rfl, Nat.le_refl _, by omega, fun _ => ⟨w1.heap.size, 0, rfl, by omega, fun j hj => ?_⟩⟩
      have hj' : j < 1 := hj
      obtain rfl : j = 0 := by omega
      rw [hW2]
      simp [go_sem, lst, nthS, scrO]
  have HNEW := Lib.hid (new_any (fun _ => False) (w1.heap.size + 3) 2 _ 1 [scrO] 5 W2 (fun _ h => h.elim) (by omega) hscr scrO_wf ⟨by omega, by omega⟩ ⟨by omega, by omega⟩)
  have HWW := Lib.hid hW2
  have HB2 := Lib.hid (HB1.out.trans (hb2.mono hz1))
  clear hW2 hb2 hscr
  go_wp2_with fail
  rw [← HWW.out]
  refine HNEW.out.mono ?_
  rintro e w3 ⟨p, P, rfl, hp, hf3, hn3⟩
  have HSP := Lib.hid (spawn_any 48 (hn3.up (T' := 1000) (by omega)) (by show 0 + 201 * 0 + 201 ≤ 1000; omega) (by omega))
  have HG3 := Lib.hid (show Fr (fun k => W.heap.size ≤ k) W w3 from (Fr.of_below HB2.out).trans (hf3.weak (S2 := fun _ => False) (fun _ h => h)) (fun k hk => hk.elim))
  have HLO := Lib.hid (show ∀ k, (fun k => W2.heap.size ≤ k ∧ k < w3.heap.size) k → W.heap.size ≤ k from fun k hk => by have := hk.1; omega)
  have hS2 := spawn_ord (id := 2) (fuel := 5)
  have e1 : (spawnN (newN 2 [scrO] 5) ⟨#[48]⟩).2.1 = 2001 := by
    have := congrArg (fun q => q.2.1) hS2
    exact this
  have e2 : (spawnN (newN 2 [scrO] 5) ⟨#[48]⟩).2.2 = 0 := by
    have := congrArg (fun q => q.2.2) hS2
    exact this
  have e3 : (spawnN (newN 2 [scrO] 5) ⟨#[48]⟩).1 = ordS 2 5 [] := by
    have := congrArg (fun q => q.1) hS2
    exact this
  rw [e3, e1, e2] at HSP
  clear hn3 hf3 HNEW e1 e2 e3 hS2 HWW HB2 HB1
  go_wp2_with fail
  refine HSP.out.mono ?_
  rintro e w4 ⟨P4, -, rfl, X4, M4, hg4, hn4⟩
  have HS4 := Lib.hid (show OrdAtW W (w1.heap.size + 3) p 1000 2 5 w4 P4 X4 M4 (.slice none 0 0) [] (fun _ => List.replicate 9 (.int .i64 0)) from
    ⟨HG3.out.trans (hg4.fr.weak (fun k hk => HLO.out k hk)) (fun k hk => .inl hk), fun k hk => by
      rcases hg4.ms k hk with h | h
      · exact HLO.out k h
      · have := HG3.out.size; omega, hn4, (fun y hy => by cases hy), SentR.nil _ _ _, (fun k hk => by cases hk)⟩)
  clear hg4 hn4 HSP HG3 HLO
  go_upto_block 0 with (fail)
  go_cut [6] (fun v6 wx => OrdEnd W (w1.heap.size + 3) p v6 wx)
  case first =>
    go_wp2_with fail
    go_loopw [6, 7, 8, 32] (fun v6 _ _ v32 wr => ∃ (i : Nat) (Pi : Int → Nat) (Xi Mi : Nat → Prop) (C : Nat → List Value) (A : Option Addr) (c : Nat), i ≤ ln ∧ i ≤ 50 ∧ v32 = .int .i64 (i : Int) ∧ v6 = .slice A i c ∧ Hid (OrdAtW W (w1.heap.size + 3) p (1000 + 60000001 * i) 2 5 wr Pi Xi Mi (.slice A i c) (sentL larg i) C)) (fun _ _ _ v32 _ => ln - (intOf v32).toNat)
    case atStart => exact ⟨0, P4, X4, M4, _, none, 0, Nat.zero_le _, Nat.zero_le _, rfl, rfl, HS4⟩
    case round =>
      obtain ⟨i, Pi, Xi, Mi, C, A, c, hi, hi50, rfl, rfl, HSi⟩ := hrel
      have HEND := Lib.hid (show ∀ W', Fr (fun _ => False) wr W' → OrdEnd W (w1.heap.size + 3) p (.slice A i c) W' from fun W' hf => ⟨_, Pi, Xi, Mi, sentL larg i, C, A, c, by omega, by rw [sentL_len], by rw [sentL_len]; omega, HSi.out.new hf⟩)
      by_cases hlt : i < ln
      · obtain ⟨b, off, rfl, hbl, -, CL, hCL⟩ := HL.out (by omega)
        obtain ⟨hxl, hxc⟩ := hCL i hlt
        obtain ⟨x, hx⟩ : ∃ x, larg i = x := ⟨_, rfl⟩
        have hwf := HML.out i hlt
        have hmy := HB0.out i hlt
        rw [hx] at hxl hwf hmy
        have HXE := Lib.hid hx
        obtain ⟨k2, m2, s2, A2, n2, c2, hcs, hxv⟩ := hxl
        rw [hcs] at hxc
        have hnb : ¬ W.heap.size ≤ b := by omega
        have y0 : wr.cell? ⟨b, off + i * 9, none⟩ = some (.int .i64 x.kind) := HSi.out.fr.cell (hxc 0 _ rfl) hnb
        have y1 : wr.cell? ⟨b, off + i * 9 + 1, none⟩ = some (.int .i64 x.frm) := HSi.out.fr.cell (hxc 1 _ rfl) hnb
        have y2 : wr.cell? ⟨b, off + i * 9 + 2, none⟩ = some (.int .i64 x.to) := HSi.out.fr.cell (hxc 2 _ rfl) hnb
        have y3 : wr.cell? ⟨b, off + i * 9 + 3, none⟩ = some (.int .i64 x.num) := HSi.out.fr.cell (hxc 3 _ rfl) hnb
        have y4 : wr.cell? ⟨b, off + i * 9 + 4, none⟩ = some (.string x.text) := HSi.out.fr.cell (hxc 4 _ rfl) hnb
        have y5 : wr.cell? ⟨b, off + i * 9 + 5, none⟩ = some (.int .i64 k2) := HSi.out.fr.cell (hxc 5 _ rfl) hnb
        have y6 : wr.cell? ⟨b, off + i * 9 + 6, none⟩ = some (.int .i64 m2) := HSi.out.fr.cell (hxc 6 _ rfl) hnb
        have y7 : wr.cell? ⟨b, off + i * 9 + 7, none⟩ = some (.string s2) := HSi.out.fr.cell (hxc 7 _ rfl) hnb
        have y8 : wr.cell? ⟨b, off + i * 9 + 8, none⟩ = some (.slice A2 n2 c2) := HSi.out.fr.cell (hxc 8 _ rfl) hnb
        have hbr : b < wr.heap.size := Nat.lt_of_lt_of_le hbl HSi.out.fr.size
        have i1 : (0 : Int) ≤ (i : Int) := by omega
        have i2 : (i : Int) < (ln : Int) := by omega
        have HXV := Lib.hid (show x.val.isV wr (fun k => k < W.heap.size) [.int .i64 k2, .int .i64 m2, .string s2, .slice A2 n2 c2] from isV_frame HSi.out.fr.size (fun b _ hlt => ⟨hlt, HSi.out.fr.block b hlt (by omega)⟩) hxv)
        have HXW := Lib.hid hwf
        have HMY := Lib.hid hmy
        clear hCL hxc hnb hx hcs hxv hwf hmy
        by_cases h50 : i = 50
        · subst h50
          go_wp2_with fail
          go_meet
          exact HEND.out _ (by (repeat' first | with_reducible exact Fr.refl _ _ | (with_reducible refine Fr.setEq ?_ _) | (with_reducible refine Fr.setNew ?_ _) | with_reducible refine Fr.alloc ?_ _ | with_reducible refine Fr.drewN ?_ _ | with_reducible refine Fr.drew ?_))
        · have g50 : decide ((50 : Int) ≤ (i : Int)) = false := decide_eq_false (by omega)
          have HFL := Lib.hid (fun (W9 : World) (hf : Fr (fun _ => False) wr W9) => flat_any x.val [.int .i64 k2, .int .i64 m2, .string s2, .slice A2 n2 c2] (fun k => k < W.heap.size) W9 (isV_frame hf.size (fun b hb hlt => ⟨hb, hf.block b hlt (fun h => h)⟩) HXV.out) HMY.out)
          obtain ⟨W5, hW5⟩ : ∃ W5, W5 = wr.alloc (.cells #[.int .i64 x.kind, .int .i64 x.frm, .int .i64 x.to, .int .i64 x.num, .string x.text, .int .i64 k2, .int .i64 m2, .string s2, .slice A2 n2 c2] 43) := ⟨_, rfl⟩
          have hf5 : Fr (fun _ => False) wr W5 := by rw [hW5]; exact (Fr.refl _ _).alloc _
          have x1 : W5.cell? ⟨wr.heap.size, 1, none⟩ = some (.int .i64 x.frm) := by rw [hW5]; simp [go_sem]
          have x0 : W5.cell? ⟨wr.heap.size, 0, none⟩ = some (.int .i64 x.kind) := by rw [hW5]; simp [go_sem]
          have x2 : W5.cell? ⟨wr.heap.size, 2, none⟩ = some (.int .i64 x.to) := by rw [hW5]; simp [go_sem]
          have x3 : W5.cell? ⟨wr.heap.size, 3, none⟩ = some (.int .i64 x.num) := by rw [hW5]; simp [go_sem]
          have x4 : W5.cell? ⟨wr.heap.size, 4, none⟩ = some (.string x.text) := by rw [hW5]; simp [go_sem]
          have x5 : W5.cell? ⟨wr.heap.size, 5, none⟩ = some (.int .i64 k2) := by rw [hW5]; simp [go_sem]
          have x6 : W5.cell? ⟨wr.heap.size, 6, none⟩ = some (.int .i64 m2) := by rw [hW5]; simp [go_sem]
          have x7 : W5.cell? ⟨wr.heap.size, 7, none⟩ = some (.string s2) := by rw [hW5]; simp [go_sem]
          have x8 : W5.cell? ⟨wr.heap.size, 8, none⟩ = some (.slice A2 n2 c2) := by rw [hW5]; simp [go_sem]
          have xf : ∀ o, W5.frozen? ⟨wr.heap.size, o, none⟩ = false := fun o => by rw [hW5]; simp [go_sem]
          have hz5 : wr.heap.size < W5.heap.size := by rw [hW5]; simp
          have HF5 := Lib.hid hf5
          have HW5 := Lib.hid hW5
          clear hW5 hf5
          go_wp2_with fail
          rw [← HW5.out]
          refine (HFL.out _ HF5.out).mono ?_
          rintro e w5 ⟨rfl, hb5⟩
          have hf6 := Fr.of_below (S := fun _ => False) hb5
          have HF6 := Lib.hid (HF5.out.trans' hf6)
          have z0 := hf6.cell x0 (fun h => h)
          have z1 := hf6.cell x1 (fun h => h)
          have z2 := hf6.cell x2 (fun h => h)
          have z3 := hf6.cell x3 (fun h => h)
          have z4 := hf6.cell x4 (fun h => h)
          have z5 := hf6.cell x5 (fun h => h)
          have z6 := hf6.cell x6 (fun h => h)
          have z7 := hf6.cell x7 (fun h => h)
          have z8 := hf6.cell x8 (fun h => h)
          have zf : ∀ o, w5.frozen? ⟨wr.heap.size, o, none⟩ = false := fun o => (hf6.frozen hz5 (fun h => h)).trans (xf o)
          have hz6 := Nat.lt_of_lt_of_le hz5 hf6.size
          have HKD := Lib.hid (isV_kind HXV.out)
          clear x0 x1 x2 x3 x4 x5 x6 x7 x8 xf y0 y1 y2 y3 y4 y5 y6 y7 y8 hb5 hf6 HFL HF5 HW5
          rcases hfb : flatB x.val with _ | _
          · clear hfb
            go_wp2_with fail
            go_meet
            exact HEND.out _ HF6.out
          · have HFB := Lib.hid hfb
            clear hfb
            go_upto_if 51 with (fail)
            go_cut [] (fun wx => OrdBox wx wr.heap.size (fun k => k < W.heap.size) (ordX 2 x) ∧ Hid (Fr (fun _ => False) wr wx) ∧ wr.heap.size < wx.heap.size)
            case first =>
              by_cases hk2 : k2 = 2
              · subst hk2
                go_wp2_with fail
                go_meet
                refine ⟨⟨[.int .i64 1, .int .i64 x.frm, .int .i64 2001, .int .i64 x.num, .string x.text, .int .i64 0, .int .i64 0, .string ⟨#[]⟩, .slice none 0 0], ⟨0, 0, ⟨#[]⟩, none, 0, 0, rfl, ?_⟩, nine_of ?_ ?_ ?_ ?_ ?_ ?_ ?_ ?_ ?_⟩, ?_, ?_⟩
                · have e : (ordX 2 x).val = vLeaf 0 0 := if_pos HKD.out
                  rw [e]
                  exact leaf_V _ _ _ _
                · simp [go_sem, z0]
                · simp [go_sem, z1]
                · simp [go_sem, z2]
                · simp [go_sem, z3]
                · simp [go_sem, z4]
                · simp [go_sem, z5]
                · simp [go_sem, z6]
                · simp [go_sem, z7]
                · simp [go_sem, z8]
                · exact Lib.hid ((((((HF6.out.set (Or.inr (Nat.le_refl _)) _).set (Or.inr (Nat.le_refl _)) _).set (Or.inr (Nat.le_refl _)) _).set (Or.inr (Nat.le_refl _)) _).set (Or.inr (Nat.le_refl _)) _).set (Or.inr (Nat.le_refl _)) _)
                · simpa using hz6
              · go_wp2_with fail
                go_meet
                have hf7 : Fr (fun _ => False) wr ((w5.setCell ⟨wr.heap.size, 0, none⟩ (.int .i64 1)).setCell ⟨wr.heap.size, 2, none⟩ (.int .i64 2001)) := (HF6.out.set (Or.inr (Nat.le_refl _)) _).set (Or.inr (Nat.le_refl _)) _
                refine ⟨⟨[.int .i64 1, .int .i64 x.frm, .int .i64 2001, .int .i64 x.num, .string x.text, .int .i64 k2, .int .i64 m2, .string s2, .slice A2 n2 c2], ⟨k2, m2, s2, A2, n2, c2, rfl, ?_⟩, nine_of ?_ ?_ ?_ ?_ ?_ ?_ ?_ ?_ ?_⟩, Lib.hid hf7, ?_⟩
                · have e : (ordX 2 x).val = x.val := if_neg (by rw [HKD.out]; exact hk2)
                  rw [e]
                  exact isV_frame hf7.size (fun b hb hlt => ⟨hb, hf7.block b hlt (fun h => h)⟩) HXV.out
                · simp [go_sem, z0]
                · simp [go_sem, z1]
                · simp [go_sem, z2]
                · simp [go_sem, z3]
                · simp [go_sem, z4]
                · simp [go_sem, z5]
                · simp [go_sem, z6]
                · simp [go_sem, z7]
                · simp [go_sem, z8]
                · simpa using hz6
            case rest =>
              obtain ⟨hbox, HFC, hzc⟩ := hcut
              obtain ⟨cs, hyl, hyc⟩ := hbox
              obtain ⟨k', m', s', A', n', c', rfl, hyv⟩ := hyl
              have y0 : wc.cell? ⟨wr.heap.size, 0, none⟩ = some (.int .i64 1) := hyc 0 _ rfl
              have y1 : wc.cell? ⟨wr.heap.size, 1, none⟩ = some (.int .i64 x.frm) := hyc 1 _ rfl
              have y2 : wc.cell? ⟨wr.heap.size, 2, none⟩ = some (.int .i64 2001) := hyc 2 _ rfl
              have y3 : wc.cell? ⟨wr.heap.size, 3, none⟩ = some (.int .i64 x.num) := hyc 3 _ rfl
              have y4 : wc.cell? ⟨wr.heap.size, 4, none⟩ = some (.string x.text) := hyc 4 _ rfl
              have y5 : wc.cell? ⟨wr.heap.size, 5, none⟩ = some (.int .i64 k') := hyc 5 _ rfl
              have y6 : wc.cell? ⟨wr.heap.size, 6, none⟩ = some (.int .i64 m') := hyc 6 _ rfl
              have y7 : wc.cell? ⟨wr.heap.size, 7, none⟩ = some (.string s') := hyc 7 _ rfl
              have y8 : wc.cell? ⟨wr.heap.size, 8, none⟩ = some (.slice A' n' c') := hyc 8 _ rfl
              have hyl : (ordX 2 x).isL wc (fun k => k < W.heap.size) [.int .i64 1, .int .i64 x.frm, .int .i64 2001, .int .i64 x.num, .string x.text, .int .i64 k', .int .i64 m', .string s', .slice A' n' c'] := ⟨k', m', s', A', n', c', rfl, hyv⟩
              have HYL := Lib.hid hyl
              have hflat := of_decide_eq_true HFB.out
              have hlw : LtWf (ordX 2 x) := by
                have hw := HXW.out
                refine ⟨hw.2.1, show Wf 2001 from Wf.of (by decide) (by decide), hw.2.2.2.1, ?_, ?_⟩
                · show (if vkind x.val = 2 then vLeaf 0 0 else x.val).wf
                  split
                  · exact ⟨⟨by omega, by omega⟩, fun i hi => by omega⟩
                  · exact hw.2.2.2.2
                · show (if vkind x.val = 2 then vLeaf 0 0 else x.val).many ≤ 1000
                  split
                  · simp [vLeaf, VT.many, sumTo]
                  · omega
              have hSc := HSi.out.new HFC.out
              have hup := ordS_up (id := 2) (fuel := 5) (L := sentL larg i) (x := ordX 2 x) (by omega) hSc.no (ordX_no 2 x) rfl rfl (by rw [sentL_len]; omega)
              have HPUT := Lib.hid (put_any (ordX 2 x) _ _ hSc.nd hyl hlw (by omega))
              rw [hup.1] at HPUT
              have HUP := Lib.hid hup.2
              have HSC := Lib.hid hSc
              have HEQ := Lib.hid (show sentL larg (i + 1) = sentL larg i ++ [ordX 2 x] from by rw [sentL_up, HXE.out])
              generalize (putN (ordS 2 5 (sentL larg i)) (ordX 2 x)).1 = N5 at *
              obtain ⟨i0, hi0, jz0, jz1, jz2⟩ := info_parts infoL
              clear hyc hyl hyv hflat hlw hSc hup HKD HXV HXW HMY HFB
              go_wp2_with fail
              refine HPUT.out.mono ?_
              rintro e w6 ⟨rfl, X6, M6, hg6, hn6⟩
              have hqM : ¬ Mi wr.heap.size := fun hm => by
                have := HSi.out.nd.xlt _ (HSi.out.nd.2.2.1 _ hm).1
                omega
              have z0 := hg6.fr.cell y0 hqM
              have z1 := hg6.fr.cell y1 hqM
              have z2 := hg6.fr.cell y2 hqM
              have z3 := hg6.fr.cell y3 hqM
              have z4 := hg6.fr.cell y4 hqM
              have z5 := hg6.fr.cell y5 hqM
              have z6 := hg6.fr.cell y6 hqM
              have z7 := hg6.fr.cell y7 hqM
              have z8 := hg6.fr.cell y8 hqM
              have hq6 := Nat.lt_of_lt_of_le hzc hg6.fr.size
              have HOW := Lib.hid ((HSC.out.row.fr hg6.fr (fun k hk => (HSC.out.blk k hk).2) (fun k hk hm => by have := HSC.out.ml k hm; omega)).row)
              have hbw6 : w1.heap.size + 3 ≤ w6.heap.size := by have := HSi.out.nd.pM.2.2; have := HSi.out.nd.p_lt; omega
              have HG6 := Lib.hid hg6
              have HN6 := Lib.hid hn6
              have hsl := sentL_len larg i
              have HSL := Lib.hid hsl
              rw [hsl] at HOW
              clear y0 y1 y2 y3 y4 y5 y6 y7 y8 hg6 hn6 HPUT hsl
              go_wp2_with (at_builtin; go_loud (refine wpList_append_lies _ rfl _ _ 45 rfl (w1.heap.size + 3) 43 i0 _ 9 104 Tryz.underlying45 hi0 jz0 jz1 jz2 rfl (by omega) (.slice A i c) i (flatC C i) rfl (HOW.out.alloc _) ⟨w6.heap.size, 0, none⟩ 1 1 [.int .i64 1, .int .i64 x.frm, .int .i64 2001, .int .i64 x.num, .string x.text, .int .i64 k', .int .i64 m', .string s', .slice A' n' c'] rfl rfl (cell_newL _ _ _ _ rfl) (isL_one HYL.out) (by omega) (by unfold maxLen; omega) (by omega) (by simp; omega) (w6.heap.size + 1) (by simp) ?_; intro g cap w7 hown7 hgrow7 hat7 hlt7; have HO7 := Lib.hid hown7; have HG7 := Lib.hid hgrow7; have HA7 := Lib.hid hat7; clear hown7 hgrow7 hat7))
              have hstep := HSC.out.step (v' := .slice (some ⟨g, 0, none⟩) (i + 1) cap) (by omega) HYL.out (ordX_no 2 x) HG6.out HN6.out ((Fr.refl _ w6).alloc _) HG7.out (by rw [HSL.out]; exact HO7.out) (by
                rcases HA7.out with h | h
                · exact .inl h.symm
                · exact .inr ⟨g, rfl, by simp; omega⟩)
              obtain ⟨hfr7, hml7, ⟨X7, hn7, hblk7⟩, hrow7⟩ := hstep
              have HFR7 := Lib.hid hfr7
              have HML7 := Lib.hid hml7
              have HBL7 := Lib.hid hblk7
              have HRW7 := Lib.hid hrow7
              have HTN := Lib.hid (turn_any hn7 (by omega))
              clear hfr7 hml7 hn7 hblk7 hrow7
              refine HTN.out.mono ?_
              rintro e w8 ⟨rfl, P8, X8, M8, hg8, hn8⟩
              rw [HUP.out, ← HEQ.out] at hn8
              have HRW8 := Lib.hid HRW7.out
              rw [← HEQ.out] at HRW8
              have HS8 := Lib.hid (OrdAtW.after HFR7.out HML7.out HBL7.out HRW8.out (fun y hy => by
                rw [HEQ.out] at hy
                rcases List.mem_append.1 hy with hy | hy
                · exact HSC.out.no y hy
                · rw [List.mem_singleton] at hy
                  rw [hy]
                  exact ordX_no 2 x) hg8 (hn8.up (T' := 1000 + 60000001 * (i + 1)) (by omega)))
              clear hg8 hn8 HTN
              go_wp2_with fail
              go_roundw
              case rel => exact ⟨i + 1, P8, X8, M8, _, some ⟨g, 0, none⟩, cap, by omega, by omega, by go_num, rfl, HS8⟩
              case measure => simp [intOf]; omega
      · obtain rfl : i = ln := by omega
        go_wp2_with fail
        go_meet
        exact HEND.out _ (Fr.refl _ _)
  case rest =>
    obtain ⟨T, Pc, Xc, Mc, L, C, A, c, hT, hv6, hL60, hOA⟩ := hcut
    subst hv6
    obtain ⟨a, ha, hab⟩ := ordS_find (id := 2) (fuel := 5) (L := L)
    have HBX := Lib.hid (box_any hOA.nd (ref := 2001) ha)
    rw [hab] at HBX
    have HRD := Lib.hid hOA.row.rd.2
    have HFE := Lib.hid hOA.fr
    clear hOA ha hab HS4 HL HML HB0
    go_wp2_with fail
    refine HBX.out.mono ?_
    rintro e w6 ⟨v6, C6, rfl, hL6, hb6⟩
    obtain ⟨A6, c6, hv6, _⟩ := own_any hL6.row
    subst hv6
    have hf6 := Fr.of_below (S := fun _ => False) hb6
    have HR6 := Lib.hid hL6.rd
    have HR7 := Lib.hid (HRD.out.frame hf6.size (fun k _ hlt => ⟨trivial, hf6.block k hlt (fun h => h)⟩))
    have HSM := Lib.hid (sameLs_any L.length L.length c6 c A6 A (nthL L) (nthL L) _ _ w6 (by omega) (by omega) HR6.out HR7.out)
    rw [allTo_same HR6.out] at HSM
    have HF6 := Lib.hid hf6
    clear hL6 hb6 hf6 HBX
    go_wp2_with fail
    refine HSM.out.mono ?_
    rintro e w7 ⟨rfl, hb7⟩
    have HB7 := Lib.hid hb7
    clear hb7
    go_wp2_with fail
    refine bodyPost_ret (v := .bool true) (by simp [results, Tryz.results6, go_sem]) rfl ⟨rfl, ?_⟩
    exact (HFE.out.trans (HF6.out.trans' (Fr.of_below HB7.out)) (fun _ h => h.elim)).below (fun k hk => hk) (Nat.le_refl _)
end Go.Proofs.YtjjfglbcikaicaaGreat
