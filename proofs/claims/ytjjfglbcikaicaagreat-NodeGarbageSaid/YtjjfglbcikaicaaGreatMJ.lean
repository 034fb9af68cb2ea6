/- What all actors of a node keep. A deed of a node. Scripts that a call builds by append. Scripts and deeds as arguments. Scripts that are tame. A node of scripts behind some deeds. A node behind deeds, as the laws begin. A slice of numbers as an argument; two equal rows. -/
import Derived.Test.YtjjfglbcikaicaaGreatMI
import Derived.Test.YtjjfglbcikaicaaGreatME
import Derived.Test.YtjjfglbcikaicaaGreatMD
import Derived.Test.YtjjfglbcikaicaaGreatOpen
import Derived.Test.YtjjfglbcikaicaaGreatInts
import Derived.IntWalk
import Derived.SizedLaws
namespace Go.Proofs.YtjjfglbcikaicaaGreat
open Go.RowKit
set_option linter.unusedVariables false
set_option linter.unusedSimpArgs false
def AllA (Q : ActS → Prop) (N : NdS) : Prop := ∀ a, a ∈ N.acts → Q a
/-- what an actor keeps, whatever is done -/
structure QInv (Q : ActS → Prop) : Prop where
  put : ∀ a x, Q a → Q (putBox a x)
  wake : ∀ a, Q a → a.waits = true → Q (wakeA a).1
  ran : ∀ a f, Q a → a.waits = false → Q { a with d := (runD f a.d).1 }
  wait : ∀ a f, Q a → a.waits = false → (runD f a.d).2.kind = 7 → Q (waitA { a with d := (runD f a.d).1 } (runD f a.d).2.num)
  give : ∀ a x, Q a → Q (giveA a x)
  tick : ∀ a, Q a → Q (tickA a)
  new : ∀ nm l ref, Q ⟨ref, newD nm l 0 0 ref, [], 0, false, 0, fun _ => false⟩
section
variable {Q : ActS → Prop} {N : NdS}
theorem AllA.setA (h : AllA Q N) {a : ActS} (ha : Q a) : AllA Q (N.setA a) := fun b hb => by
  rcases mem_setA.1 hb with ⟨_, _, _, rfl⟩ | ⟨hb, _⟩
  · exact ha
  · exact h b hb
theorem AllA.delA (h : AllA Q N) (r : Int) : AllA Q (N.delA r) := fun b hb => h b (mem_delA.1 hb).1
theorem AllA.find (h : AllA Q N) {r : Int} {a : ActS} (ha : N.find r = some a) : Q a := h a (find_some ha).1
variable (hQ : QInv Q)
include hQ
theorem deliverW_all {rem : NdS → Int → ByteArray → NdS} (hr : ∀ M r t, AllA Q M → AllA Q (rem M r t)) (h : AllA Q N) (x : LT) : AllA Q (deliverW rem N x) := by
  unfold deliverW
  split
  · split
    · exact h
    · rename_i a ha
      exact h.setA (hQ.put a x (h.find ha))
  · split
    · exact h
    · split
      · exact h
      · split
        · split
          · exact hr _ _ _ h
          · exact h
        · exact h
theorem send1W_all {rem : NdS → Int → ByteArray → NdS} (hr : ∀ M r t, AllA Q M → AllA Q (rem M r t)) (h : AllA Q N) (x : LT) : AllA Q (send1W rem N x) := by
  unfold send1W
  split
  · exact deliverW_all hQ hr h x
  · split
    · exact h
    · exact h
theorem replyW_all {rem : NdS → Int → ByteArray → NdS} (hr : ∀ M r t, AllA Q M → AllA Q (rem M r t)) (h : AllA Q N) (x : LT) : AllA Q (replyW rem N x) := by
  unfold replyW
  split
  · exact h
  · exact send1W_all hQ hr h _
theorem sendW_all {rem : NdS → Int → ByteArray → NdS} (hr : ∀ M r t, AllA Q M → AllA Q (rem M r t)) (h : AllA Q N) (x : LT) : AllA Q (sendW rem N x) := by
  unfold sendW
  split
  · exact deliverW_all hQ hr h x
  · split
    · exact h
    · exact replyW_all hQ hr h x
theorem foldl_all {rem : NdS → Int → ByteArray → NdS} (hr : ∀ M r t, AllA Q M → AllA Q (rem M r t)) : ∀ (l : List LT) {N : NdS}, AllA Q N → AllA Q (l.foldl (sendW rem) N)
  | [], N, h => h
  | x :: l, N, h => foldl_all hr l (sendW_all hQ hr h x)
theorem remN_all : ∀ (k : Nat) {N : NdS} (ref : Int) (failed : Bool) (text : ByteArray), AllA Q N → AllA Q (remN k N ref failed text)
  | 0, N, _, _, _, h => h
  | k + 1, N, ref, failed, text, h => by
    have h2 : AllA Q ({ N.delA ref with rows := goneL N.rows ref } : NdS) := h.delA ref
    exact foldl_all hQ (fun M r t hM => remN_all k r true t hM) _ h2
theorem sendN_all (h : AllA Q N) (x : LT) : AllA Q (sendN N x) := sendW_all hQ (fun M r t hM => remN_all hQ 60 r true t hM) h x
theorem replyN_all (h : AllA Q N) (x : LT) : AllA Q (replyN N x) := replyW_all hQ (fun M r t hM => remN_all hQ 60 r true t hM) h x
theorem deliverN_all (h : AllA Q N) (x : LT) : AllA Q (deliverN N x) := deliverW_all hQ (fun M r t hM => remN_all hQ 60 r true t hM) h x
theorem putN_all (h : AllA Q N) (x : LT) : AllA Q (putN N x).1 := by
  unfold putN
  split
  · exact h
  · split
    · exact replyN_all hQ h x
    · split
      · exact h
      · exact deliverN_all hQ h x
theorem spawnN_all (h : AllA Q N) (nm : ByteArray) : AllA Q (spawnN N nm).1 := by
  unfold spawnN
  dsimp only
  split
  · exact h
  · split
    · exact h
    · split
      · exact h
      · intro b hb
        rcases mem_insA.1 hb with rfl | hb
        · exact hQ.new _ _ _
        · exact h b hb
theorem goA_all {a : ActS} (h : Q a) : Q (goA a).1 := by
  unfold goA
  rcases hw : a.waits with _ | _
  · exact h
  · exact hQ.wake a h hw
omit hQ in
theorem goA_waits {a : ActS} (h : (goA a).2 = true) : (goA a).1.waits = false := by
  unfold goA at h ⊢
  rcases hw : a.waits with _ | _
  · rw [if_neg (by decide)]
    exact hw
  · rw [hw] at h
    rw [if_pos rfl] at h ⊢
    unfold wakeA at h ⊢
    split
    · rfl
    · split
      · rfl
      · rename_i h1 h2
        rw [h1] at h
        dsimp only at h
        rw [if_neg h2] at h
        cases h
theorem stepN_all (h : AllA Q N) (r : Int) : AllA Q (stepN N r).1 := by
  rcases ha : N.find r with _ | a
  · unfold stepN
    rw [ha]
    exact h
  · have hqa := goA_all hQ (h.find ha)
    rcases hg : (goA a).2 with _ | _
    · rw [stepN_no ha hg]
      exact h.setA hqa
    · rw [stepN_go ha hg]
      have hw := goA_waits hg
      have hr : Q (ranA N a) := hQ.ran _ _ hqa hw
      have h2 : AllA Q ((N.setA (goA a).1).setA (ranA N a)) := (h.setA hqa).setA hr
      have hwr : (ranA N a).waits = false := hw
      have h7 : (runD N.fuel (goA a).1.d).2.kind = 7 → Q (waitA (ranA N a) (runD N.fuel (goA a).1.d).2.num) := fun h7 => hQ.wait _ _ hqa hw h7
      generalize (N.setA (goA a).1).setA (ranA N a) = N2 at *
      generalize ranA N a = a2 at *
      generalize (runD N.fuel (goA a).1.d).2 = o at *
      unfold armN
      split
      · exact h2
      split
      · exact sendN_all hQ h2 _
      split
      · exact sendN_all hQ h2 _
      split
      · exact sendN_all hQ (show AllA Q { N2 with rows := linkL N2.rows r o.num } from h2) _
      split
      · have h3 := spawnN_all hQ h2 o.text
        dsimp only
        split
        · exact h3
        · rename_i b hb
          exact h3.setA (hQ.give b _ (h3.find hb))
      split
      · rename_i h7'
        exact h2.setA (h7 h7')
      split
      · exact remN_all hQ _ _ _ _ h2
      split
      · exact remN_all hQ _ _ _ _ h2
      · exact h2
theorem loopN_all : ∀ (k : Nat) {N : NdS} (r : Int), AllA Q N → AllA Q (loopN k N r)
  | 0, N, r, h => h
  | k + 1, N, r, h => by
    unfold loopN
    split
    · split
      · exact loopN_all k r (stepN_all hQ h r)
      · exact stepN_all hQ h r
    · exact h
theorem turnN_all (h : AllA Q N) : AllA Q (turnN N).1 := by
  unfold turnN
  split
  · exact h
  · exact loopN_all hQ _ _ (show AllA Q { N with last := nextI (readyN N) N.last } from h)
theorem tickN_all (h : AllA Q N) : AllA Q (tickN N) := fun b hb => by
  obtain ⟨a, ha, rfl⟩ := List.mem_map.1 hb
  exact hQ.tick a (h a ha)
omit hQ in
theorem dropN_all (h : AllA Q N) (r : Int) : AllA Q (dropN N r) := by
  unfold dropN
  split
  · exact h.delA r
  · exact h
end
/-- ticks are few -/
def TkOk (a : ActS) : Prop := (-1 ≤ a.ticks ∧ a.ticks ≤ 9) ∧ -1 ≤ a.d.r.ln ∧ a.d.r.ln ≤ 9
theorem stepR_ln {l : List Stp} {r : RunS} (h : -1 ≤ r.ln ∧ r.ln ≤ 9) : (-1 ≤ (stepR l r).1.ln ∧ (stepR l r).1.ln ≤ 9) ∧ ((stepR l r).2.kind = 7 → -1 ≤ (stepR l r).2.num ∧ (stepR l r).2.num ≤ 9) := by
  have hm : ∀ b : Int, -1 ≤ max (-1) (min b 9) ∧ max (-1) (min b 9) ≤ 9 := fun b => by omega
  unfold stepR
  split
  · exact ⟨⟨by show (-1 : Int) ≤ 0; omega, by show (0 : Int) ≤ 9; omega⟩, fun e => by cases e⟩
  dsimp only
  split
  · exact ⟨h, fun e => by cases e⟩
  split
  · exact ⟨h, fun e => by cases e⟩
  split
  · exact ⟨h, fun e => by cases e⟩
  split
  · exact ⟨h, fun e => by cases e⟩
  split
  · exact ⟨h, fun e => by cases e⟩
  split
  · exact ⟨hm _, fun _ => hm _⟩
  split
  · exact ⟨⟨by show (-1 : Int) ≤ 0; omega, by show (0 : Int) ≤ 9; omega⟩, fun e => by cases e⟩
  split
  · exact ⟨⟨by show (-1 : Int) ≤ 0; omega, by show (0 : Int) ≤ 9; omega⟩, fun e => by cases e⟩
  split
  · exact ⟨h, fun e => by cases e⟩
  · exact ⟨h, fun e => by cases e⟩
theorem runR_ln {l : List Stp} : ∀ (f : Nat) {r : RunS}, (-1 ≤ r.ln ∧ r.ln ≤ 9) → (-1 ≤ (runR l f r).1.ln ∧ (runR l f r).1.ln ≤ 9) ∧ ((runR l f r).2.kind = 7 → -1 ≤ (runR l f r).2.num ∧ (runR l f r).2.num ≤ 9)
  | 0, r, h => ⟨h, fun e => by cases e⟩
  | f + 1, r, h => by
    unfold runR
    split
    · exact ⟨h, fun _ => h⟩
    split
    · exact ⟨h, fun e => by cases e⟩
    have h2 := stepR_ln (l := l) h
    split
    · exact runR_ln f h2.1
    · exact h2
theorem runD_ln {f : Nat} {d : DiaS} (h : -1 ≤ d.r.ln ∧ d.r.ln ≤ 9) : (-1 ≤ (runD f d).1.r.ln ∧ (runD f d).1.r.ln ≤ 9) ∧ ((runD f d).2.kind = 7 → -1 ≤ (runD f d).2.num ∧ (runD f d).2.num ≤ 9) := by
  have h2 := runR_ln (l := d.l) f h
  unfold runD
  dsimp only
  split
  · exact h2
  · exact h2
theorem tk_inv : QInv TkOk where
  put a x h := by unfold putBox; split <;> exact h
  wake a h hw := by
    unfold wakeA
    split
    · refine ⟨h.1, ?_⟩
      have := (offerD_same a.d (a.box.getD ‹Nat› zLT).says).ln
      show -1 ≤ (offerD a.d _).1.r.ln ∧ _
      rw [this]
      exact h.2
    · split
      · refine ⟨h.1, ?_⟩
        show -1 ≤ (lateD a.d).r.ln ∧ _
        rw [(lateD_same a.d).ln]
        exact h.2
      · exact h
  ran a f h hw := ⟨h.1, (runD_ln h.2).1⟩
  wait a f h hw h7 := ⟨(runD_ln h.2).2 h7, (runD_ln h.2).1⟩
  give a x h := ⟨h.1, by
    show -1 ≤ (giveD a.d x).r.ln ∧ (giveD a.d x).r.ln ≤ 9
    unfold giveD
    split
    · unfold giveR
      split <;> exact h.2
    · exact h.2⟩
  tick a h := by
    unfold tickA
    split
    · rename_i h2
      obtain ⟨⟨h3, h4⟩, h5⟩ := h
      have : 0 < a.ticks := by simpa using (Bool.and_eq_true_iff.1 h2).2
      exact ⟨⟨by show -1 ≤ a.ticks - 1; omega, by show a.ticks - 1 ≤ 9; omega⟩, h5⟩
    · exact h
  new nm l ref := ⟨⟨by show (-1 : Int) ≤ 0; omega, by show (0 : Int) ≤ 9; omega⟩, by show (-1 : Int) ≤ 0; omega, by show (0 : Int) ≤ 9; omega⟩
end Go.Proofs.YtjjfglbcikaicaaGreat
namespace Go.Proofs.YtjjfglbcikaicaaGreat
open Go.RowKit
set_option linter.unusedVariables false
set_option linter.unusedSimpArgs false
structure Dd where
  kind : Int
  n : Int
  ref : Int
  num : Int
/-- a script's name -/
def nmD (n : Int) : ByteArray := ⟨#[UInt8.ofNat (48 + ((IntKind.u64.wrap n).tmod 5).toNat)]⟩
def toD (N : NdS) (x : Int) : Int := (refsN N).getD ((IntKind.u64.wrap x).tmod ((refsN N).length : Int)).toNat 0
def msgD (N : NdS) (d : Dd) : LT := ⟨1, d.n, toD N d.ref, 0, ⟨#[]⟩, vLeaf 2 d.num⟩
/-- a deed -/
def doN (N : NdS) (d : Dd) : NdS :=
  if d.kind = 1 then (spawnN N (nmD d.n)).1
  else if d.kind = 2 then if refsN N = [] then N else (putN N (msgD N d)).1
  else if d.kind = 3 then (turnN N).1
  else if d.kind = 4 then tickN N
  else N
structure DdWf (d : Dd) : Prop where
  n : Wf d.n
  num : Wf d.num
theorem doN_all {Q : ActS → Prop} (hQ : QInv Q) {N : NdS} (h : AllA Q N) (d : Dd) : AllA Q (doN N d) := by
  unfold doN
  split
  · exact spawnN_all hQ h _
  split
  · split
    · exact h
    · exact putN_all hQ h _
  split
  · exact turnN_all hQ h
  split
  · exact tickN_all hQ h
  · exact h
theorem nmD_is (a : Int) : nmD a = ⟨#[UInt8.ofNat (IntKind.u64.wrap (48 + (IntKind.u64.wrap a).tmod 5) % 256).toNat]⟩ := by
  have e : (IntKind.u64.wrap (48 + (IntKind.u64.wrap a).tmod 5) % 256).toNat = 48 + ((IntKind.u64.wrap a).tmod 5).toNat := by
    obtain ⟨g0, g1⟩ := u64_wrap_range a
    rw [Int.tmod_eq_emod_of_nonneg g0]
    have a0 := Int.emod_nonneg (IntKind.u64.wrap a) (show (5 : Int) ≠ 0 by omega)
    have a1 := Int.emod_lt_of_pos (IntKind.u64.wrap a) (show (0 : Int) < 5 by omega)
    generalize IntKind.u64.wrap a % 5 = y at *
    have : IntKind.u64.wrap (48 + y) = 48 + y := by rw [wrapI_u64]; omega
    omega
  rw [e]
  rfl
def ddC (d : Dd) : List Value := [.int .i64 d.kind, .int .i64 d.n, .int .i64 d.ref, .int .i64 d.num]
def DoPost (X M : Nat → Prop) (base T p : Nat) (N' : NdS) (w : World) (e : Ending) (w' : World) : Prop :=
  e = .returned (.tuple #[]) ∧ ∃ P' X' M', Gr X M w X' M' w' ∧ NodeAt w' X' M' base T p P' N'
set_option maxRecDepth 100000 in
set_option maxHeartbeats 8000000 in
theorem do_any {w : World} {X M : Nat → Prop} {base T p : Nat} {P : Int → Nat} {N : NdS} (h : NodeAt w X M base T p P N) (hi : AllA TkOk N) (d : Dd) (hd : DdWf d) (hT : T + 300000000 ≤ 1000000000000) :
    Calls Tryz.prog 33 #[.pointer (some ⟨p, 0, none⟩), .agg (ddC d).toArray] w (DoPost X M base (T + 100000000) p (doN N d) w) := by
  have HN := Lib.hid h
  have HI := Lib.hid hi
  have HD := Lib.hid hd
  have hlen := h.ok.len
  have hlim := h.lim
  clear h hi hd
  obtain ⟨k, n, rf, nu⟩ := d
  unfold ddC
  by_cases h1 : k = 1
  · subst h1
    have HE := Lib.hid (show doN N ⟨1, n, rf, nu⟩ = (spawnN N (nmD n)).1 from rfl)
    have HNM := Lib.hid (nmD_is n)
    have hcv : ∀ (W : World) (x : Int), W.heap.size = w.heap.size + 1 → Sem.run Tryz.prog (convert 71 9 (.slice (some ⟨w.heap.size + 1, 0, none⟩) 1 1)) (W.alloc (.cells #[.int .u8 (x % 256)] 5)) = .ok (.string ⟨#[UInt8.ofNat (x % 256).toNat]⟩) (W.alloc (.cells #[.int .u8 (x % 256)] 5)) := fun W x hW => conv_one W x _ hW
    have HSP := Lib.hid (fun (W : World) (hf : Fr (fun _ => False) w W) => spawn_any (UInt8.ofNat (48 + ((IntKind.u64.wrap n).tmod 5).toNat)) ((HN.out.new hf (fun _ h => h)).up (T' := T + 201) (by omega)) (by unfold pot; omega) (by omega))
    go_enter Tryz.func33, Tryz.ntmps33
    go_wp2_with fail
    rw [← HNM.out]
    refine (HSP.out _ (by (repeat' first | with_reducible exact Fr.refl _ _ | (with_reducible refine Fr.setEq ?_ _) | (with_reducible refine Fr.setNew ?_ _) | with_reducible refine Fr.alloc ?_ _ | with_reducible refine Fr.drewN ?_ _ | with_reducible refine Fr.drew ?_))).mono ?_
    rintro e w1 ⟨P1, -, rfl, X1, M1, hg1, hn1⟩
    have HG1 := Lib.hid hg1
    have HN1 := Lib.hid hn1
    clear hg1 hn1 hcv
    go_wp2_with fail
    refine bodyPost_end (results_none rfl _ _ _) rfl ?_
    rw [HE.out]
    exact ⟨rfl, P1, X1, M1, (Gr.new (show Fr (fun _ => False) w _ by (repeat' first | with_reducible exact Fr.refl _ _ | (with_reducible refine Fr.setEq ?_ _) | (with_reducible refine Fr.setNew ?_ _) | with_reducible refine Fr.alloc ?_ _ | with_reducible refine Fr.drewN ?_ _ | with_reducible refine Fr.drew ?_))).trans HG1.out, HN1.out.up (by omega)⟩
  have b1 : (k == 1) = false := by simpa using h1
  by_cases h2 : k = 2
  · subst h2
    obtain ⟨W1, hW1⟩ : ∃ W1, W1 = w.alloc (.cells #[.int .i64 2, .int .i64 n, .int .i64 rf, .int .i64 nu] 69) := ⟨_, rfl⟩
    have hf1 : Fr (fun _ => False) w W1 := by rw [hW1]; exact (Fr.refl _ _).alloc _
    have HF1 := Lib.hid hf1
    have x0 : W1.cell? ⟨w.heap.size, 0, none⟩ = some (.int .i64 2) := by rw [hW1]; simp [go_sem]
    have x1 : W1.cell? ⟨w.heap.size, 1, none⟩ = some (.int .i64 n) := by rw [hW1]; simp [go_sem]
    have x2 : W1.cell? ⟨w.heap.size, 2, none⟩ = some (.int .i64 rf) := by rw [hW1]; simp [go_sem]
    have x3 : W1.cell? ⟨w.heap.size, 3, none⟩ = some (.int .i64 nu) := by rw [hW1]; simp [go_sem]
    have hz1 : w.heap.size < W1.heap.size := by rw [hW1]; simp
    have HN1 := Lib.hid (HN.out.new hf1 (fun _ h => h))
    have HR := Lib.hid (refs_any HN1.out)
    have HW1 := Lib.hid hW1
    clear hW1 hf1
    go_enter Tryz.func33, Tryz.ntmps33
    go_wp2_with fail
    rw [← HW1.out]
    go_wp2_with fail
    refine HR.out.mono ?_
    rintro e w2 ⟨A, c, rfl, hO, hb2⟩
    have HO := Lib.hid hO
    have HF2 := Lib.hid (Fr.of_below (S := fun _ => False) hb2)
    have y1 := HF2.out.cell x1 (fun h => h)
    have y2 := HF2.out.cell x2 (fun h => h)
    have y3 := HF2.out.cell x3 (fun h => h)
    have hz2 := hb2.size
    clear hO hb2 x0 x1 x2 x3
    by_cases h0 : N.acts.length = 0
    · have HE := Lib.hid (show doN N ⟨2, n, rf, nu⟩ = N by
        have : refsN N = [] := List.eq_nil_of_length_eq_zero (by rw [refsN_len]; exact h0)
        unfold doN
        rw [if_neg (show ¬ (2 : Int) = 1 by decide), if_pos rfl, if_pos this])
      rw [h0]
      clear h0
      go_wp2_with fail
      refine bodyPost_end (results_none rfl _ _ _) rfl ?_
      rw [HE.out]
      exact ⟨rfl, P, X, M, Gr.new (HF1.out.trans' HF2.out), (HN.out.new (HF1.out.trans' HF2.out) (fun _ h => h)).up (by omega)⟩
    · have HE := Lib.hid (show doN N ⟨2, n, rf, nu⟩ = (putN N (msgD N ⟨2, n, rf, nu⟩)).1 by
        have : ¬ refsN N = [] := fun e => h0 (by rw [← refsN_len, e]; rfl)
        unfold doN
        rw [if_neg (show ¬ (2 : Int) = 1 by decide), if_pos rfl, if_neg this])
      obtain ⟨ix, hix, hixl⟩ : ∃ ix : Nat, ((IntKind.u64.wrap rf).tmod ((N.acts.length : Nat) : Int)).toNat = ix ∧ ix < N.acts.length := by
        refine ⟨_, rfl, ?_⟩
        obtain ⟨g0, g1⟩ := u64_wrap_range rf
        rw [Int.tmod_eq_emod_of_nonneg g0]
        have a0 := Int.emod_nonneg (IntKind.u64.wrap rf) (show ((N.acts.length : Nat) : Int) ≠ 0 by omega)
        have a1 := Int.emod_lt_of_pos (IntKind.u64.wrap rf) (show (0 : Int) < ((N.acts.length : Nat) : Int) by omega)
        omega
      have hwr := wrap_rem rf N.acts.length (by omega) (by omega)
      rw [hix] at hwr
      obtain ⟨b, off, hA, hb, hcell⟩ := HO.out.rd (by rw [refsN_len]; omega)
      subst hA
      have c0 := hcell ix (by rw [refsN_len]; exact hixl) 0 _ rfl
      simp only [Nat.add_zero, Nat.mul_one] at c0
      have hto : lst (refsN N) ix = toD N rf := by
        unfold toD lst
        rw [refsN_len, hix]
      rw [hto] at c0
      have hwt : Wf (toD N rf) := by
        have hm : toD N rf ∈ refsN N := by
          rw [← hto]
          unfold lst
          rw [List.getD_eq_getElem?_getD, List.getElem?_eq_getElem (by rw [refsN_len]; exact hixl)]
          exact List.getElem_mem _
        obtain ⟨a, ha, e⟩ := has_iff.1 (mem_refsN.1 hm)
        exact e ▸ (HN.out.ok.act a ha).ref
      have HPT := Lib.hid (fun (W : World) (hf : Fr (fun _ => False) w2 W) => put_any (msgD N ⟨2, n, rf, nu⟩) [.int .i64 1, .int .i64 n, .int .i64 (toD N rf), .int .i64 0, .string ⟨#[]⟩, .int .i64 2, .int .i64 nu, .string ⟨#[]⟩, .slice none 0 0] (fun _ => True) (HN.out.new ((HF1.out.trans' HF2.out).trans' hf) (fun _ h => h)) ⟨_, _, _, none, 0, 0, rfl, leaf_V W _ _ _⟩ ⟨HD.out.n, hwt, wf0, ⟨⟨by have := HD.out.num.low; exact this.1, by have := HD.out.num.low; show nu < 9223372036854775808; have h2 : nu ≤ 9223372036854775807 := this.2; omega⟩, fun i hi => by omega⟩, by simp [msgD, vLeaf, VT.many, sumTo]⟩ (by omega))
      have hu : IntKind.u64.wrap ((N.acts.length : Nat) : Int) = ((N.acts.length : Nat) : Int) := by rw [wrapI_u64]; omega
      have i1 : (0 : Int) ≤ (ix : Int) := by omega
      have i2 : (ix : Int) < (N.acts.length : Int) := by omega
      have hbz : b < w2.heap.size := hb
      have i0 : decide ((0 : Int) < (N.acts.length : Int)) = true := decide_eq_true (by omega)
      have hwr2 : IntKind.i64.wrap ((IntKind.u64.wrap rf).tmod ((N.acts.length : Nat) : Int)) = ((ix : Nat) : Int) := by rw [IntWalk.i64_left]; exact hwr
      have h0i : ¬ ((N.acts.length : Nat) : Int) = 0 := by omega
      have h0b : (((N.acts.length : Nat) : Int) == 0) = false := by simpa using h0
      clear hcell hto hwt hix
      go_wp2_with fail
      go_region_with (first | (go_at_call 19; refine (HPT.out _ (by (repeat' first | with_reducible exact Fr.refl _ _ | (with_reducible refine Fr.setEq ?_ _) | (with_reducible refine Fr.setNew ?_ _) | with_reducible refine Fr.alloc ?_ _ | with_reducible refine Fr.drewN ?_ _ | with_reducible refine Fr.drew ?_))).mono ?_; rintro e w5 ⟨rfl, X5, M5, hg5, hn5⟩; have HG5 := Lib.hid ((Gr.new (show Fr (fun _ => False) w2 _ by (repeat' first | with_reducible exact Fr.refl _ _ | (with_reducible refine Fr.setEq ?_ _) | (with_reducible refine Fr.setNew ?_ _) | with_reducible refine Fr.alloc ?_ _ | with_reducible refine Fr.drewN ?_ _ | with_reducible refine Fr.drew ?_))).trans hg5); have HN5 := Lib.hid hn5; clear hg5 hn5))
      all_goals
        go_wp2_with fail
        refine bodyPost_end (results_none rfl _ _ _) rfl ?_
        rw [HE.out]
        exact ⟨rfl, P, X5, M5, (Gr.new (HF1.out.trans' HF2.out)).trans HG5.out, HN5.out.up (by omega)⟩
  have b2 : (k == 2) = false := by simpa using h2
  by_cases h3 : k = 3
  · subst h3
    have HE := Lib.hid (show doN N ⟨3, n, rf, nu⟩ = (turnN N).1 from rfl)
    have HTN := Lib.hid (fun (W : World) (hf : Fr (fun _ => False) w W) => turn_any (HN.out.new hf (fun _ h => h)) (by omega))
    go_enter Tryz.func33, Tryz.ntmps33
    go_wp2_with fail
    refine (HTN.out _ (by (repeat' first | with_reducible exact Fr.refl _ _ | (with_reducible refine Fr.setEq ?_ _) | (with_reducible refine Fr.setNew ?_ _) | with_reducible refine Fr.alloc ?_ _ | with_reducible refine Fr.drewN ?_ _ | with_reducible refine Fr.drew ?_))).mono ?_
    rintro e w1 ⟨rfl, P1, X1, M1, hg1, hn1⟩
    have HG1 := Lib.hid hg1
    have HN1 := Lib.hid hn1
    clear hg1 hn1
    go_wp2_with fail
    refine bodyPost_end (results_none rfl _ _ _) rfl ?_
    rw [HE.out]
    exact ⟨rfl, P1, X1, M1, (Gr.new (show Fr (fun _ => False) w _ by (repeat' first | with_reducible exact Fr.refl _ _ | (with_reducible refine Fr.setEq ?_ _) | (with_reducible refine Fr.setNew ?_ _) | with_reducible refine Fr.alloc ?_ _ | with_reducible refine Fr.drewN ?_ _ | with_reducible refine Fr.drew ?_))).trans HG1.out, HN1.out.up (by omega)⟩
  have b3 : (k == 3) = false := by simpa using h3
  by_cases h4 : k = 4
  · subst h4
    have HE := Lib.hid (show doN N ⟨4, n, rf, nu⟩ = tickN N from rfl)
    have HTN := Lib.hid (fun (W : World) (hf : Fr (fun _ => False) w W) => tick_any (HN.out.new hf (fun _ h => h)) (fun a ha => by have := (HI.out a ha).1.2; omega))
    go_enter Tryz.func33, Tryz.ntmps33
    go_wp2_with fail
    refine (HTN.out _ (by (repeat' first | with_reducible exact Fr.refl _ _ | (with_reducible refine Fr.setEq ?_ _) | (with_reducible refine Fr.setNew ?_ _) | with_reducible refine Fr.alloc ?_ _ | with_reducible refine Fr.drewN ?_ _ | with_reducible refine Fr.drew ?_))).mono ?_
    rintro e w1 ⟨rfl, X1, M1, hg1, hn1⟩
    have HG1 := Lib.hid hg1
    have HN1 := Lib.hid hn1
    clear hg1 hn1
    go_wp2_with fail
    refine bodyPost_end (results_none rfl _ _ _) rfl ?_
    rw [HE.out]
    exact ⟨rfl, P, X1, M1, (Gr.new (show Fr (fun _ => False) w _ by (repeat' first | with_reducible exact Fr.refl _ _ | (with_reducible refine Fr.setEq ?_ _) | (with_reducible refine Fr.setNew ?_ _) | with_reducible refine Fr.alloc ?_ _ | with_reducible refine Fr.drewN ?_ _ | with_reducible refine Fr.drew ?_))).trans HG1.out, HN1.out.up (by omega)⟩
  have b4 : (k == 4) = false := by simpa using h4
  have HE := Lib.hid (show doN N ⟨k, n, rf, nu⟩ = N by unfold doN; rw [if_neg h1, if_neg h2, if_neg h3, if_neg h4])
  clear h1 h2 h3 h4
  go_enter Tryz.func33, Tryz.ntmps33
  go_wp2_with fail
  refine bodyPost_end (results_none rfl _ _ _) rfl ?_
  rw [HE.out]
  exact ⟨rfl, P, X, M, Gr.new (show Fr (fun _ => False) w _ by (repeat' first | with_reducible exact Fr.refl _ _ | (with_reducible refine Fr.setEq ?_ _) | (with_reducible refine Fr.setNew ?_ _) | with_reducible refine Fr.alloc ?_ _ | with_reducible refine Fr.drewN ?_ _ | with_reducible refine Fr.drew ?_)), (HN.out.new (show Fr (fun _ => False) w _ by (repeat' first | with_reducible exact Fr.refl _ _ | (with_reducible refine Fr.setEq ?_ _) | (with_reducible refine Fr.setNew ?_ _) | with_reducible refine Fr.alloc ?_ _ | with_reducible refine Fr.drewN ?_ _ | with_reducible refine Fr.drew ?_)) (fun _ h => h)).up (by omega)⟩
end Go.Proofs.YtjjfglbcikaicaaGreat
namespace Go.Proofs.YtjjfglbcikaicaaGreat
open Go.RowKit
set_option linter.unusedVariables false
set_option linter.unusedSimpArgs false
/-- numbers that lie in blocks of B -/
def NumIn (w : World) (B : Nat → Prop) (v : Value) (l : List Int) : Prop := ∃ A c, v = .slice A l.length c ∧ l.length ≤ c ∧ c ≤ 9223372036854775807 ∧ (0 < l.length → ∃ b off, A = some ⟨b, off, none⟩ ∧ B b ∧ ∀ j, j < l.length → w.cell? ⟨b, off + j, none⟩ = some (.int .i64 (lst l j)))
/-- a script that lies in blocks of B -/
def ScrIn (w : World) (B : Nat → Prop) (A : Option Addr) (c : Nat) (l : List Stp) (vo : Nat → Value) : Prop :=
  l.length ≤ c ∧ c ≤ 9223372036854775807 ∧ l.length ≤ 1000000 ∧ (0 < l.length → ∃ b off, A = some ⟨b, off, none⟩ ∧ B b ∧ ∀ k, k < l.length → ∀ j u, (stC l vo k)[j]? = some u → w.cell? ⟨b, off + k * 4 + j, none⟩ = some u) ∧ ∀ k, k < l.length → NumIn w B (vo k) (nthS l k).ok
section
variable {w w' : World} {B B' S : Nat → Prop} {v : Value} {A : Option Addr} {c base : Nat} {l : List Stp} {vo : Nat → Value}
theorem NumIn.fr {l : List Int} (h : NumIn w B v l) (hf : Fr S w w') (hS : ∀ b, B b → ¬ S b) (hB : ∀ b, B b → B' b) : NumIn w' B' v l := by
  obtain ⟨A, c, e, h1, h2, h3⟩ := h
  refine ⟨A, c, e, h1, h2, fun h0 => ?_⟩
  obtain ⟨b, off, e2, hb, hc⟩ := h3 h0
  exact ⟨b, off, e2, hB b hb, fun j hj => hf.cell (hc j hj) (hS b hb)⟩
theorem ScrIn.fr (h : ScrIn w B A c l vo) (hf : Fr S w w') (hS : ∀ b, B b → ¬ S b) (hB : ∀ b, B b → B' b) : ScrIn w' B' A c l vo := by
  obtain ⟨h1, h2, h3, h4, h5⟩ := h
  refine ⟨h1, h2, h3, fun h0 => ?_, fun k hk => (h5 k hk).fr hf hS hB⟩
  obtain ⟨b, off, e2, hb, hc⟩ := h4 h0
  exact ⟨b, off, e2, hB b hb, fun k hk j u hu => hf.cell (hc k hk j u hu) (hS b hb)⟩
theorem ScrIn.at_ (h : ScrIn w B A c l vo) (hB : ∀ b, B b → b < base) : ScrAt w base A c l vo := by
  obtain ⟨h1, h2, h3, h4, h5⟩ := h
  refine ⟨h1, h2, h3, fun h0 => ?_, fun k hk => ?_⟩
  · obtain ⟨b, off, e2, hb, hc⟩ := h4 h0
    exact ⟨b, off, e2, hB b hb, hc⟩
  · obtain ⟨A, c, e, g1, g2, g3⟩ := h5 k hk
    refine ⟨A, c, e, g1, g2, fun h0 => ?_⟩
    obtain ⟨b, off, e2, hb, hc⟩ := g3 h0
    exact ⟨b, off, e2, hB b hb, hc⟩
end
/-- scripts in a row of the call's own -/
structure ScrRow (w : World) (base : Nat) (v : Value) (L : List (List Stp)) (V : Nat → Value) : Prop where
  row : w.ownsRow base 29 1 v L.length (flatC (fun i => [V i]) L.length)
  each : ∀ i, i < L.length → ∃ A c vo, V i = .slice A (L.getD i []).length c ∧ ScrIn w (fun b => b < w.heap.size ∧ v.ownBlock ≠ some b) A c (L.getD i []) vo
theorem ScrRow.nil (w : World) (base : Nat) : ScrRow w base (.slice none 0 0) [] (fun _ => .slice none 0 0) := ⟨World.ownsRow_nil _ _ _ _, fun i hi => by simp at hi⟩
theorem ScrRow.fr {w w' : World} {base : Nat} {v : Value} {L : List (List Stp)} {V : Nat → Value} (h : ScrRow w base v L V) (hf : Fr (fun _ => False) w w') : ScrRow w' base v L V := by
  refine ⟨hf.row h.row (fun _ _ h => h), fun i hi => ?_⟩
  obtain ⟨A, c, vo, e, hs⟩ := h.each i hi
  exact ⟨A, c, vo, e, hs.fr hf (fun _ _ h => h) (fun b hb => ⟨Nat.lt_of_lt_of_le hb.1 hf.size, hb.2⟩)⟩
theorem ScrRow.scrs {w : World} {base : Nat} {v : Value} {L : List (List Stp)} {V : Nat → Value} (h : ScrRow w base v L V) (hL : L.length ≤ 1000000) : ∃ A c, v = .slice A L.length c ∧ ScrsAt w w.heap.size A c L := by
  obtain ⟨A, c, rfl, k1, k2, k3⟩ := own_any h.row
  refine ⟨A, c, rfl, k1, k2, hL, fun h0 => ?_, fun i hi => ?_⟩
  · obtain ⟨g, cap, hv, hb, hlt, _⟩ := own_form h.row h0
    injection hv with e1 _ _
    exact ⟨g, 0, e1, hlt⟩
  · obtain ⟨g, cap, hv, hb, hlt, _⟩ := own_form h.row (show 0 < L.length by omega)
    injection hv with e1 e2 e3
    subst e1 e3
    obtain ⟨A', c', vo, e, hs⟩ := h.each i hi
    have hc := own_cellC h.row (fun k => rfl) hi (j := 0) (by omega)
    refine ⟨g, 0, A', c', vo, rfl, hlt, ?_, hs.at_ (fun b hb => hb.1)⟩
    rw [Nat.zero_add]
    have hc' : w.cell? ⟨g, i, none⟩ = some (V i) := by simpa using hc
    rw [hc', e]
theorem ScrRow.push {w w5 w' : World} {base : Nat} {v v' : Value} {L : List (List Stp)} {V : Nat → Value} {A : Option Addr} {c : Nat} {l : List Stp} {vo : Nat → Value} (h : ScrRow w base v L V) (hf : Fr (fun _ => False) w w5) (hl : ScrIn w5 (fun b => b < w5.heap.size ∧ v.ownBlock ≠ some b) A c l vo) (hg : w5.grownBy w' v.ownBlock)
    (hrow : w'.ownsRow base 29 1 v' (L.length + 1) (flatC (fun i => [V i]) L.length ++ [.slice A l.length c])) (hat : v'.ownBlock = v.ownBlock ∨ ∃ H, v'.ownBlock = some H ∧ w5.heap.size ≤ H) : ∃ V', ScrRow w' base v' (L ++ [l]) V' := by
  have hlt := fun b hb => (h.row.lt b hb).2
  have hz := hf.size
  have hgf : Fr (fun k => v.ownBlock = some k) w5 w' := Fr.of_grown hg (fun k hk => .inl hk)
  have hz' := hgf.size
  have hne : ∀ b, b < w.heap.size → v.ownBlock ≠ some b → v'.ownBlock ≠ some b := fun b hb hn => by
    rcases hat with e | ⟨H, e, hH⟩
    · rw [e]; exact hn
    · rw [e]
      intro e2
      injection e2 with e2
      omega
  refine ⟨fun i => if i = L.length then .slice A l.length c else V i, ?_, fun i hi => ?_⟩
  · have e : (L ++ [l]).length = L.length + 1 := by simp
    have e2 : flatC (fun i => [if i = L.length then .slice A l.length c else V i]) (L ++ [l]).length = flatC (fun i => [V i]) L.length ++ [.slice A l.length c] := by
      rw [e, flatC_snoc]
      refine flatC_congr fun k hk => ?_
      unfold updC
      split <;> rfl
    rw [e2, e]
    exact hrow
  · by_cases e : i = L.length
    · subst e
      rw [if_pos rfl]
      have e3 : (L ++ [l]).getD L.length [] = l := by simp
      rw [e3]
      refine ⟨A, c, vo, rfl, hl.fr hgf (fun b hb hs => hb.2 hs) (fun b hb => ⟨by omega, ?_⟩)⟩
      rcases hat with e | ⟨H, e, hH⟩
      · rw [e]
        exact hb.2
      · rw [e]
        intro e2
        injection e2 with e2
        omega
    · have hi' : i < L.length := by rw [List.length_append] at hi; simp at hi; omega
      rw [if_neg e]
      have e3 : (L ++ [l]).getD i [] = L.getD i [] := by
        rw [List.getD_eq_getElem?_getD, List.getD_eq_getElem?_getD, List.getElem?_append_left hi']
      rw [e3]
      obtain ⟨A', c', vo', e4, hs⟩ := h.each i hi'
      have hs5 : ScrIn w5 (fun b => b < w.heap.size ∧ v.ownBlock ≠ some b) A' c' (L.getD i []) vo' := hs.fr hf (fun _ _ h => h) (fun _ h => h)
      exact ⟨A', c', vo', e4, hs5.fr hgf (fun b hb hs => hb.2 hs) (fun b hb => ⟨by omega, hne b hb.1 hb.2⟩)⟩
theorem infoSteps : (Tryz.prog.info? 29).map (fun i => (i.zero, i.size, i.bytes)) = some (some (.slice none 0 0), 1, 24) := by kernel_rfl
/-- one script more -/
theorem wpList_push_in {ops : Array Oper} {rest : List Oper} {o : Oper} {a : Act} {w w5 : World} {Q : Exit → Act → World → Prop} (hgd : o.guard = none) (s x : Operand)
    (ho : o.op = .call { callee := .builtin .append, args := #[s, x], argTypes := #[25, 25] }) (base : Nat) (v : Value) (L : List (List Stp)) (V : Nat → Value) (hs : a.eval s = v) (h : ScrRow w base v L V) (hf : Fr (fun _ => False) w w5) (A : Option Addr) (c n : Nat) (l : List Stp) (vo : Nat → Value) (hn : l.length = n)
    (hl : ScrIn w5 (fun b => b < w5.heap.size ∧ v.ownBlock ≠ some b) A c l vo) (H : Nat) (hH : w5.heap.size = H) (hx : a.eval x = .slice (some ⟨H, 0, none⟩) 1 1) (hL : L.length ≤ 1000) (hbase : base ≤ w.heap.size)
    (h : ∀ v' w' V', ScrRow w' base v' (L ++ [l]) V' → Fr (fun k => v.ownBlock = some k) w w' → (∀ k, v.ownBlock = some k → base ≤ k) → wpList Tryz.prog ops Q rest (a.put o.dst v') w') :
    wpList Tryz.prog ops Q (o :: rest) a (w5.alloc (.cells #[.slice A n c] 29)) := by
  rename_i hrw
  obtain ⟨i0, hi, hz0, hz1, hz2⟩ := info_parts infoSteps
  subst hH
  subst hn
  have hz := hf.size
  refine wpList_append_own_at _ hgd s x 25 ho base 29 i0 (.slice none 0 0) 1 24 Tryz.underlying25 hi hz0 hz1 hz2 rfl (by decide) v L.length _ hs ((hf.row hrw.row (fun _ _ h => h)).alloc _) ⟨w5.heap.size, 0, none⟩ 1 1 [.slice A l.length c] hx rfl (cell_one_new _ _ _) ?_ ?_ ?_ ?_ ?_
  · intro u hu; simp at hu; subst hu; rfl
  · unfold maxLen; omega
  · omega
  · simp; omega
  · intro v' w' h1 h2 _ h4
    have hg : w5.grownBy w' v.ownBlock := grown_step (World.grownBy_alloc w5 _ _) h2 (.inl rfl)
    obtain ⟨V', hV⟩ := hrw.push (v' := v') hf hl hg (by simpa using h1) (by
      rcases h4 with h4 | h4
      · exact .inl h4
      · exact .inr ⟨_, h4, by simp⟩)
    exact h v' w' V' hV ((hf.weak (fun _ h => h.elim)).trans' (Fr.of_grown hg (fun k hk => .inl hk))) (fun k hk => (hrw.row.lt k hk).1)
theorem wpList_push_scr {ops : Array Oper} {rest : List Oper} {o : Oper} {a : Act} {w w5 : World} {Q : Exit → Act → World → Prop} (hgd : o.guard = none) (s x : Operand)
    (ho : o.op = .call { callee := .builtin .append, args := #[s, x], argTypes := #[25, 25] }) (base : Nat) (v : Value) (L : List (List Stp)) (V : Nat → Value) (hs : a.eval s = v) (hrw : ScrRow w base v L V) (hf : Fr (fun _ => False) w w5) (A : Option Addr) (c n : Nat) (l : List Stp) (vo : Nat → Value) (hn : l.length = n)
    (hl : ScrIn w5 (fun b => w.heap.size ≤ b ∧ b < w5.heap.size) A c l vo) (H : Nat) (hH : w5.heap.size = H) (hx : a.eval x = .slice (some ⟨H, 0, none⟩) 1 1) (hL : L.length ≤ 1000) (hbase : base ≤ w.heap.size)
    (h : ∀ v' w' V', ScrRow w' base v' (L ++ [l]) V' → Fr (fun k => v.ownBlock = some k) w w' → (∀ k, v.ownBlock = some k → base ≤ k) → wpList Tryz.prog ops Q rest (a.put o.dst v') w') :
    wpList Tryz.prog ops Q (o :: rest) a (w5.alloc (.cells #[.slice A n c] 29)) := 
  wpList_push_in hgd s x ho base v L V hs hrw hf A c n l vo hn (hl.fr (Fr.refl (fun _ => False) _) (fun _ _ h => h) (fun b hb => ⟨hb.2, fun e => by have := (hrw.row.lt b e).2; omega⟩)) H hH hx hL hbase h
/-- a script that was just built -/
theorem scrIn_new {w : World} {B : Nat → Prop} {b n : Nat} {l : List Stp} {vo : Nat → Value} (hn : l.length = n) (h6 : n ≤ 1000000) (hb : B b) (h : ∀ j u, (flatC (stC l vo) n)[j]? = some u → w.cell? ⟨b, j, none⟩ = some u) (ho : ∀ k, k < n → NumIn w B (vo k) (nthS l k).ok) : ScrIn w B (some ⟨b, 0, none⟩) n l vo :=
  ⟨by omega, by omega, by omega, fun _ => ⟨b, 0, rfl, hb, fun k hk j u hu => by
    rw [Nat.zero_add]
    refine h _ u ?_
    have hj : j < 4 := (List.getElem?_eq_some_iff.1 hu).1
    rw [flatC_get (sz := 4) (fun k => rfl) (by omega) hj]
    exact hu⟩, fun k hk => ho k (by omega)⟩
theorem numIn_nil (w : World) (B : Nat → Prop) : NumIn w B (.slice none 0 0) [] := ⟨none, 0, rfl, Nat.le_refl _, by omega, fun h => by simp at h⟩
theorem numIn_one {w : World} {B : Nat → Prop} {b : Nat} {x : Int} (hb : B b) (h : w.cell? ⟨b, 0, none⟩ = some (.int .i64 x)) : NumIn w B (.slice (some ⟨b, 0, none⟩) 1 1) [x] := ⟨_, 1, rfl, Nat.le_refl _, by omega, fun _ => ⟨b, 0, rfl, hb, fun j hj => by
  obtain rfl : j = 0 := by simpa using hj
  exact h⟩⟩
end Go.Proofs.YtjjfglbcikaicaaGreat
namespace Go.Proofs.YtjjfglbcikaicaaGreat
open Go.RowKit Go.ChangeShapes Go.WideShapes Go.Deep
set_option linter.unusedVariables false
set_option linter.unusedSimpArgs false
/-- a script as it was handed in -/
def ArgScr (w : World) (B : Nat → Prop) (v : Value) (l : List Stp) : Prop :=
  ∃ A c vo, v = .slice A l.length c ∧ l.length ≤ c ∧ c ≤ 9223372036854775807 ∧ (0 < l.length → ∃ b off, A = some ⟨b, off, none⟩ ∧ B b ∧ ∀ k, k < l.length → ∀ j u, (stC l vo k)[j]? = some u → w.cell? ⟨b, off + k * 4 + j, none⟩ = some u) ∧ ∀ k, k < l.length → NumIn w B (vo k) (nthS l k).ok
/-- scripts as they were handed in -/
def ArgScrs (w : World) (B : Nat → Prop) (v : Value) (L : List (List Stp)) : Prop :=
  ∃ A c, v = .slice A L.length c ∧ L.length ≤ c ∧ c ≤ 9223372036854775807 ∧ (∀ l, l ∈ L → StpsWf l) ∧ ∀ i, i < L.length → ∃ b off V, A = some ⟨b, off, none⟩ ∧ B b ∧ w.cell? ⟨b, off + i, none⟩ = some V ∧ ArgScr w B V (L.getD i [])
section
variable {H : Type} {enc : TypeId × Value → H} {W : World}
set_option maxRecDepth 100000 in
theorem open_nums {fuel : Nat} {u : Value} {y : DataW H × List MemPlace} (h : DataW.trod enc Tryz.prog W 0 (fun _ => true) true fuel 26 [u] = some y) : ∃ l, NumIn W (fun b => b < W.heap.size) u l := by
  obtain ⟨A, n, c, C, hcs, hnc, hcm, hA, hR, hlen, hel⟩ := open_rows Tryz.underlying26 (by kernel_rfl) (sz := 1) (by omega) h
  have hv : u = .slice A n c := by simpa using hcs
  have hvi : ∀ j, ∃ z : Int, j < n → C j = [.int .i64 z] := fun j => by
    by_cases hj : j < n
    · obtain ⟨m2, q2, hy2⟩ := hel j hj
      obtain ⟨z, e, _, _⟩ := DataW.trod_int Tryz.underlying3 hy2
      exact ⟨z, fun _ => e⟩
    · exact ⟨0, fun h => absurd h hj⟩
  obtain ⟨Z, hZ⟩ := Classical.axiomOfChoice hvi
  refine ⟨fl Z n, A, c, by rw [fl_len]; exact hv, by rw [fl_len]; exact hnc, hcm, fun h0 => ?_⟩
  rw [fl_len] at h0
  obtain ⟨b, off, e, hb, hc⟩ := hR h0
  refine ⟨b, off, e, hb, fun j hj => ?_⟩
  rw [fl_len] at hj
  have := hc j hj 0 (.int .i64 (Z j)) (by rw [hZ j hj]; rfl)
  have e2 : lst (fl Z n) j = Z j := by
    unfold lst
    rw [List.getD_eq_getElem?_getD, fl_get Z hj]
    rfl
  rw [e2]
  simpa using this
set_option maxRecDepth 100000 in
theorem open_script {fuel : Nat} {u : Value} {y : DataW H × List MemPlace} (h : DataW.trod enc Tryz.prog W 0 (fun _ => true) true fuel 29 [u] = some y) : ∃ l, ArgScr W (fun b => b < W.heap.size) u l ∧ StpsWf l := by
  obtain ⟨A, n, c, C, hcs, hnc, hcm, hA, hR, hlen, hel⟩ := open_rows Tryz.underlying29 (by kernel_rfl) (sz := 4) (by omega) h
  have hv : u = .slice A n c := by simpa using hcs
  have hvi : ∀ j, ∃ q : Stp × Value, j < n → C j = [.int .i64 q.1.kind, .int .i64 q.1.a, .int .i64 q.1.b, q.2] ∧ NumIn W (fun b => b < W.heap.size) q.2 q.1.ok ∧ Wf q.1.a ∧ Wf q.1.b := fun j => by
    by_cases hj : j < n
    · obtain ⟨m, y, hy⟩ := hel j hj
      have hg := trod_fields Tryz.underlying28 (by kernel_rfl) hy
      match hC : C j, hlen j with
      | [u0, u1, u2, u3], _ =>
        rw [hC] at hg
        obtain ⟨_, _, g0⟩ := hg 0 _ u0 rfl rfl
        obtain ⟨_, _, g1⟩ := hg 1 _ u1 rfl rfl
        obtain ⟨_, _, g2⟩ := hg 2 _ u2 rfl rfl
        obtain ⟨_, _, g3⟩ := hg 3 _ u3 rfl rfl
        obtain ⟨z0, e0, _, w0⟩ := DataW.trod_int Tryz.underlying3 g0
        obtain ⟨z1, e1, _, w1⟩ := DataW.trod_int Tryz.underlying3 g1
        obtain ⟨z2, e2, _, w2⟩ := DataW.trod_int Tryz.underlying3 g2
        obtain ⟨l3, h3⟩ := open_nums g3
        simp at e0 e1 e2
        exact ⟨⟨⟨z0, z1, z2, l3⟩, u3⟩, fun _ => ⟨by rw [e0, e1, e2], h3, w1, w2⟩⟩
    · exact ⟨⟨default, undef⟩, fun h => absurd h hj⟩
  obtain ⟨Q, hQ⟩ := Classical.axiomOfChoice hvi
  have hl : ((List.range n).map fun k => (Q k).1).length = n := by simp
  have hn : ∀ k, k < n → nthS ((List.range n).map fun k => (Q k).1) k = (Q k).1 := fun k hk => by
    unfold nthS
    rw [List.getD_eq_getElem?_getD]
    simp [hk]
  refine ⟨(List.range n).map fun k => (Q k).1, ⟨A, c, fun k => (Q k).2, by rw [hl]; exact hv, by rw [hl]; exact hnc, hcm, fun h0 => ?_, fun k hk => ?_⟩, fun s hs => ?_⟩
  · rw [hl] at h0
    obtain ⟨b, off, e, hb, hc⟩ := hR h0
    refine ⟨b, off, e, hb, fun k hk j u hu => ?_⟩
    rw [hl] at hk
    refine hc k hk j u ?_
    rw [(hQ k hk).1]
    unfold stC at hu
    rw [hn k hk] at hu
    exact hu
  · rw [hl] at hk
    rw [hn k hk]
    exact (hQ k hk).2.1
  · obtain ⟨k, hk, rfl⟩ := List.mem_map.1 hs
    exact (hQ k (List.mem_range.1 hk)).2.2
set_option maxRecDepth 100000 in
theorem open_scripts {base : Nat} {v : Value} {d : DataW H} {p : List MemPlace} (k0 : Value.okWide Tryz.prog W .any base 25 v) (h0 : DataW.Trod enc Tryz.prog W 0 (fun _ => true) true 25 v d p) : ∃ L, ArgScrs W (fun b => b < W.heap.size) v L := by
  obtain ⟨a0, l0, cp0, rfl⟩ := okWide_slice Tryz.underlying25 k0
  obtain ⟨fuel, hf⟩ := h0
  obtain ⟨A, n, c, C, hcs, hnc, hcm, hA, hR, hlen, hel⟩ := open_rows Tryz.underlying25 (by kernel_rfl) (sz := 1) (by omega) hf
  have hv : Value.slice a0 l0 cp0 = .slice A n c := by simpa [Value.cells] using hcs
  have hvi : ∀ j, ∃ q : List Stp × Value, j < n → C j = [q.2] ∧ ArgScr W (fun b => b < W.heap.size) q.2 q.1 ∧ StpsWf q.1 := fun j => by
    by_cases hj : j < n
    · obtain ⟨m, y, hy⟩ := hel j hj
      match hC : C j, hlen j with
      | [u0], _ =>
        rw [hC] at hy
        obtain ⟨l, h1, h2⟩ := open_script hy
        exact ⟨⟨l, u0⟩, fun _ => ⟨rfl, h1, h2⟩⟩
    · exact ⟨⟨[], undef⟩, fun h => absurd h hj⟩
  obtain ⟨Q, hQ⟩ := Classical.axiomOfChoice hvi
  have hl : ((List.range n).map fun k => (Q k).1).length = n := by simp
  refine ⟨(List.range n).map fun k => (Q k).1, A, c, by rw [hl]; exact hv, by rw [hl]; exact hnc, hcm, fun l hl => ?_, fun i hi => ?_⟩
  · obtain ⟨k, hk, rfl⟩ := List.mem_map.1 hl
    exact (hQ k (List.mem_range.1 hk)).2.2
  · rw [hl] at hi
    obtain ⟨b, off, e, hb, hc⟩ := hR (by omega)
    have hcell := hc i hi 0 (Q i).2 (by rw [(hQ i hi).1]; rfl)
    have hg : ((List.range n).map fun k => (Q k).1).getD i [] = (Q i).1 := by
      rw [List.getD_eq_getElem?_getD]
      simp [hi]
    refine ⟨b, off, (Q i).2, e, hb, by simpa using hcell, ?_⟩
    rw [hg]
    exact (hQ i hi).2.1
def nthDd (l : List Dd) (k : Nat) : Dd := l.getD k ⟨0, 0, 0, 0⟩
/-- deeds as they were handed in -/
def ArgDds (w : World) (v : Value) (l : List Dd) : Prop := ∃ A c, v = .slice A l.length c ∧ l.length ≤ c ∧ c ≤ 9223372036854775807 ∧ Rd w 4 (fun k => ddC (nthDd l k)) A l.length ∧ ∀ k, k < l.length → DdWf (nthDd l k)
set_option maxRecDepth 100000 in
theorem open_deeds {base : Nat} {v : Value} {d : DataW H} {p : List MemPlace} (k0 : Value.okWide Tryz.prog W .any base 56 v) (h0 : DataW.Trod enc Tryz.prog W 0 (fun _ => true) true 56 v d p) : ∃ l, ArgDds W v l := by
  obtain ⟨a0, l0, cp0, rfl⟩ := okWide_slice Tryz.underlying56 k0
  obtain ⟨fuel, hf⟩ := h0
  obtain ⟨A, n, c, C, hcs, hnc, hcm, hA, hR, hlen, hel⟩ := open_rows Tryz.underlying56 (by kernel_rfl) (sz := 4) (by omega) hf
  have hv : Value.slice a0 l0 cp0 = .slice A n c := by simpa [Value.cells] using hcs
  have hvi : ∀ j, ∃ q : Dd, j < n → C j = ddC q ∧ DdWf q := fun j => by
    by_cases hj : j < n
    · obtain ⟨m, y, hy⟩ := hel j hj
      have hg := trod_fields Tryz.underlying69 (by kernel_rfl) hy
      match hC : C j, hlen j with
      | [u0, u1, u2, u3], _ =>
        rw [hC] at hg
        obtain ⟨_, _, g0⟩ := hg 0 _ u0 rfl rfl
        obtain ⟨_, _, g1⟩ := hg 1 _ u1 rfl rfl
        obtain ⟨_, _, g2⟩ := hg 2 _ u2 rfl rfl
        obtain ⟨_, _, g3⟩ := hg 3 _ u3 rfl rfl
        obtain ⟨z0, e0, _, w0⟩ := DataW.trod_int Tryz.underlying3 g0
        obtain ⟨z1, e1, _, w1⟩ := DataW.trod_int Tryz.underlying3 g1
        obtain ⟨z2, e2, _, w2⟩ := DataW.trod_int Tryz.underlying3 g2
        obtain ⟨z3, e3, _, w3⟩ := DataW.trod_int Tryz.underlying3 g3
        simp at e0 e1 e2 e3
        exact ⟨⟨z0, z1, z2, z3⟩, fun _ => ⟨by rw [e0, e1, e2, e3]; rfl, ⟨w1, w3⟩⟩⟩
    · exact ⟨⟨0, 0, 0, 0⟩, fun h => absurd h hj⟩
  obtain ⟨Q, hQ⟩ := Classical.axiomOfChoice hvi
  have hl : ((List.range n).map Q).length = n := by simp
  have hn : ∀ k, k < n → nthDd ((List.range n).map Q) k = Q k := fun k hk => by
    unfold nthDd
    rw [List.getD_eq_getElem?_getD]
    simp [hk]
  refine ⟨(List.range n).map Q, A, c, by rw [hl]; exact hv, by rw [hl]; exact hnc, hcm, ?_, fun k hk => ?_⟩
  · rw [hl]
    exact hR.congr fun k hk => by rw [hn k hk]; exact (hQ k hk).1
  · rw [hl] at hk
    rw [hn k hk]
    exact (hQ k hk).2
end
end Go.Proofs.YtjjfglbcikaicaaGreat
namespace Go.Proofs.YtjjfglbcikaicaaGreat
open Go.RowKit
set_option linter.unusedVariables false
set_option linter.unusedSimpArgs false
def tameStp (m : Nat) (q : Stp) : Stp :=
  ⟨q.kind, if q.kind = 2 ∨ q.kind = 4 ∨ q.kind = 5 then -(q.a % 2) else if q.kind = 3 then (((IntKind.u64.wrap q.a).tmod (m : Int)).toNat : Int) else q.a, q.b, q.ok.take 6⟩
def tameScr (m : Nat) (l : List Stp) : List Stp := (l.take 12).map (tameStp m)
def tameL (L : List (List Stp)) : List (List Stp) := (L.take 5).map (tameScr (min L.length 5))
theorem and_one (a : Int) : bits .and .i64 a 1 = a % 2 := by
  have h1 : (BitVec.ofInt 64 a &&& BitVec.ofInt 64 1).toNat = (a % 2).toNat := by
    rw [BitVec.toNat_and, BitVec.toNat_ofInt, show (BitVec.ofInt 64 1).toNat = 1 from by decide, Nat.and_one_is_mod]
    omega
  have h2 : bits .and .i64 a 1 = IntKind.i64.wrap (((BitVec.ofInt 64 a &&& BitVec.ofInt 64 1).toNat : Nat) : Int) := rfl
  rw [h2, h1, IntWalk.i64_in _ ⟨by omega, by omega⟩]
  omega
/-- steps in a row of the call's own -/
structure StpRow (w : World) (base : Nat) (B : Nat → Prop) (v : Value) (l : List Stp) (vo : Nat → Value) : Prop where
  row : w.ownsRow base 28 4 v l.length (flatC (stC l vo) l.length)
  num : ∀ k, k < l.length → NumIn w B (vo k) (nthS l k).ok
theorem cells4_one (a b c : Int) (A : Option Addr) (n d : Nat) : ∀ u ∈ ([.int .i64 a, .int .i64 b, .int .i64 c, .slice A n d] : List Value), u.oneCell' = true := by
  intro u hu
  simp at hu
  rcases hu with rfl | rfl | rfl | rfl <;> rfl
theorem infoStep : (Tryz.prog.info? 28).map (fun i => (i.zero, i.size, i.bytes)) = some (some (.agg #[.int .i64 0, .int .i64 0, .int .i64 0, .slice none 0 0]), 4, 48) := by kernel_rfl
theorem stC_len (l : List Stp) (vo : Nat → Value) : ∀ k, (stC l vo k).length = 4 := fun _ => rfl
set_option maxRecDepth 100000 in
set_option maxHeartbeats 8000000 in
theorem tame_any (v : Value) (L : List (List Stp)) (w : World) (hA : ArgScrs w (fun b => b < w.heap.size) v L) :
    Calls Tryz.prog 27 #[v] w fun e w' => ∃ v' V', e = .returned v' ∧ ScrRow w' w.heap.size v' (tameL L) V' ∧ Below w.heap.size w w' := by
  obtain ⟨A, c, rfl, hc1, hc2, hwf, hrd⟩ := hA
  have HRD := Lib.hid hrd
  obtain ⟨i0, hinf, jz0, jz1, jz2⟩ := info_parts infoStep
  clear hrd
  obtain ⟨m, hm⟩ : ∃ m : Nat, m = min L.length 5 := ⟨_, rfl⟩
  have hm5 : m ≤ 5 ∧ m ≤ L.length := by omega
  have HM := Lib.hid hm
  have e1 : min (L.length : Int) 5 = (m : Int) := by omega
  have HE1 := Lib.hid e1
  clear e1 hm
  go_enter Tryz.func27, Tryz.ntmps27
  go_upto_block 0 with (fail)
  have hm1 : (min (L.length : Int) 5).toNat = m := by have := HE1.out; omega
  have hm2 : max (min (L.length : Int) 5) 0 = (m : Int) := by have := HE1.out; omega
  rw [hm1, hm2, HE1.out]
  clear hm1 hm2
  go_wp2_with fail
  go_loopw [3, 5, 6, 8, 15, 31, 40] (fun v3 _ _ _ v15 _ _ wr => ∃ (i : Nat) (R : List (List Stp)) (V : Nat → Value), i ≤ m ∧ v15 = .int .i64 (i : Int) ∧ Hid (R = (L.take i).map (tameScr m)) ∧ Hid (ScrRow wr w.heap.size v3 R V) ∧ Hid (Below w.heap.size w wr)) (fun _ _ _ _ v15 _ _ _ => m - (intOf v15).toNat)
  case atStart => exact ⟨0, [], _, Nat.zero_le _, rfl, Lib.hid rfl, Lib.hid (ScrRow.nil _ _), Lib.hid (Below.refl _ _)⟩
  case round =>
    obtain ⟨i, R, V, hi, rfl, HRL, HR, HB⟩ := hrel
    have hzr := HB.out.size
    obtain ⟨Ar, cr, rfl, -, -, -⟩ := own_any HR.out.row
    by_cases hlt : i < m
    · obtain ⟨b, off, Vi, rfl, hb, hcell, hscr⟩ := HRD.out i (by omega)
      obtain ⟨l, hl⟩ : ∃ l, L.getD i [] = l := ⟨_, rfl⟩
      rw [hl] at hscr
      obtain ⟨A', c', vo, rfl, hl1, hl2, hsteps, hnum⟩ := hscr
      have c0 := (HB.out.cell (p := ⟨b, off + i, none⟩) hb).trans hcell
      have HL := Lib.hid hl
      have HST := Lib.hid hsteps
      have HNU := Lib.hid hnum
      obtain ⟨m2, hm2⟩ : ∃ m2 : Nat, m2 = min l.length 12 := ⟨_, rfl⟩
      have hm25 : m2 ≤ 12 ∧ m2 ≤ l.length := by omega
      have HM2 := Lib.hid hm2
      have e2 : min (l.length : Int) 12 = (m2 : Int) := by omega
      have HE2 := Lib.hid e2
      have i1 : (0 : Int) ≤ (i : Int) := by omega
      have i2 : (i : Int) < (m : Int) := by omega
      have hbr : b < wr.heap.size := by omega
      clear hcell hl hsteps hnum hm2 e2
      go_upto_block 2 with (fail)
      have hq1 : (min (l.length : Int) 12).toNat = m2 := by have := HE2.out; omega
      have hq2 : max (min (l.length : Int) 12) 0 = (m2 : Int) := by have := HE2.out; omega
      rw [hq1, hq2, HE2.out]
      clear hq1 hq2
      obtain ⟨wo, hwo⟩ : ∃ wo : World, wo = wr := ⟨_, rfl⟩
      subst hwo
      go_wp2_with fail
      go_loopw [6, 8, 25, 31, 40] (fun v6 _ v25 _ _ wq => ∃ (j : Nat) (r : List Stp) (vo2 : Nat → Value), j ≤ m2 ∧ v25 = .int .i64 (j : Int) ∧ Hid (r = (l.take j).map (tameStp m)) ∧ Hid (StpRow wq wo.heap.size (fun b => b < w.heap.size) v6 r vo2) ∧ Hid (Below wo.heap.size wo wq)) (fun _ _ v25 _ _ _ => m2 - (intOf v25).toNat)
      case atStart => exact ⟨0, [], fun _ => .slice none 0 0, Nat.zero_le _, rfl, Lib.hid rfl, Lib.hid ⟨World.ownsRow_nil _ _ _ _, fun k hk => absurd hk (by simp)⟩, Lib.hid (Below.refl _ _)⟩
      case round =>
        obtain ⟨j, r, vo2, hj, rfl, HRJ, HSR, HBq⟩ := hrel
        have hzq := HBq.out.size
        obtain ⟨Aq, cq, rfl, -, -, -⟩ := own_any HSR.out.row
        by_cases hlt2 : j < m2
        · obtain ⟨b2, off2, rfl, hb2, hst⟩ := HST.out (by omega)
          obtain ⟨Ao, co, hvo, ho1, ho2, ho3⟩ := HNU.out j (by omega)
          have hjl : j < l.length := by omega
          have hcs := hst j hjl
          have hbw : Below w.heap.size w wr := HB.out.trans (HBq.out.mono hzr)
          have HBW := Lib.hid hbw
          obtain ⟨q, hq⟩ : ∃ q, nthS l j = q := ⟨_, rfl⟩
          unfold stC at hcs
          rw [hq, hvo] at hcs
          rw [hq] at ho1 ho3 hcs
          obtain ⟨k, a, bb, ok⟩ := q
          dsimp only at ho1 ho3 hcs
          have y0 : wr.cell? ⟨b2, off2 + j * 4, none⟩ = some (.int .i64 k) := (hbw.cell (p := ⟨b2, _, none⟩) hb2).trans (hcs 0 _ rfl)
          have y1 : wr.cell? ⟨b2, off2 + j * 4 + 1, none⟩ = some (.int .i64 a) := (hbw.cell (p := ⟨b2, _, none⟩) hb2).trans (hcs 1 _ rfl)
          have y2 : wr.cell? ⟨b2, off2 + j * 4 + 2, none⟩ = some (.int .i64 bb) := (hbw.cell (p := ⟨b2, _, none⟩) hb2).trans (hcs 2 _ rfl)
          have y3 : wr.cell? ⟨b2, off2 + j * 4 + 3, none⟩ = some (.slice Ao ok.length co) := (hbw.cell (p := ⟨b2, _, none⟩) hb2).trans (hcs 3 _ rfl)
          have HQ := Lib.hid hq
          have HO := Lib.hid ho3
          have hb2q : b2 < wr.heap.size := by omega
          have j1 : (0 : Int) ≤ (j : Int) := by omega
          have j2 : (j : Int) < (m2 : Int) := by omega
          clear hst hcs hbw hq ho3 hvo
          go_upto_block 4 with (fail)
          go_cut [] (fun wx => ∃ a' : Int, Hid (a' = (tameStp m ⟨k, a, bb, ok⟩).a) ∧ wx.cell? ⟨wr.heap.size, 0, none⟩ = some (.int .i64 k) ∧ wx.cell? ⟨wr.heap.size, 1, none⟩ = some (.int .i64 a') ∧ wx.cell? ⟨wr.heap.size, 2, none⟩ = some (.int .i64 bb) ∧ wx.cell? ⟨wr.heap.size, 3, none⟩ = some (.slice Ao ok.length co) ∧ (∀ o, wx.frozen? ⟨wr.heap.size, o, none⟩ = false) ∧ Hid (Below wr.heap.size wr wx) ∧ wr.heap.size < wx.heap.size)
          case first =>
            have hand := and_one a
            obtain ⟨a2, ha2, ha20, ha21⟩ : ∃ a2, a % 2 = a2 ∧ 0 ≤ a2 ∧ a2 ≤ 1 := ⟨_, rfl, by omega, by omega⟩
            rw [ha2] at hand
            have HA2 := Lib.hid ha2
            clear ha2
            by_cases h245 : k = 2 ∨ k = 4 ∨ k = 5
            · have HTA := Lib.hid (show (tameStp m ⟨k, a, bb, ok⟩).a = -a2 by unfold tameStp; rw [← HA2.out]; exact if_pos h245)
              rcases h245 with rfl | rfl | rfl
              all_goals
                go_wp2_with fail
                go_meet
                exact ⟨-a2, Lib.hid HTA.out.symm, by simp [go_sem], by simp [go_sem], by simp [go_sem], by simp [go_sem], fun o => by simp [go_sem], Lib.hid (by repeat' first | exact Below.refl _ _ | (refine below_set ?_ (by simp)) | (refine Below.alloc ?_ (by simp) _)), by simp⟩
            · have b2' : (k == 2) = false := by simp; omega
              have b4' : (k == 4) = false := by simp; omega
              have b5' : (k == 5) = false := by simp; omega
              by_cases h3 : k = 3
              · subst h3
                have HTA := Lib.hid (show (tameStp m ⟨3, a, bb, ok⟩).a = (((IntKind.u64.wrap a).tmod (m : Int)).toNat : Int) by unfold tameStp; dsimp only; rw [if_neg h245, if_pos rfl])
                have e1 := HE1.out
                have hu : IntKind.u64.wrap ((m : Nat) : Int) = ((m : Nat) : Int) := by rw [wrapI_u64]; omega
                have hwr := wrap_rem a m (by omega) (by omega)
                have hm0 : ¬ ((m : Nat) : Int) = 0 := by omega
                have hm1 : ¬ m = 0 := by omega
                clear h245 b2' b4' b5'
                go_wp2_with fail
                go_meet
                exact ⟨_, Lib.hid HTA.out.symm, by simp [go_sem], by simp [go_sem], by simp [go_sem], by simp [go_sem], fun o => by simp [go_sem], Lib.hid (by repeat' first | exact Below.refl _ _ | (refine below_set ?_ (by simp)) | (refine Below.alloc ?_ (by simp) _)), by simp⟩
              · have HTA := Lib.hid (show (tameStp m ⟨k, a, bb, ok⟩).a = a by unfold tameStp; exact (if_neg h245).trans (if_neg h3))
                have b3' : (k == 3) = false := by simpa using h3
                clear h245 h3
                go_wp2_with fail
                go_meet
                exact ⟨a, Lib.hid HTA.out.symm, by simp [go_sem], by simp [go_sem], by simp [go_sem], by simp [go_sem], fun o => by simp [go_sem], Lib.hid (by repeat' first | exact Below.refl _ _ | (refine below_set ?_ (by simp)) | (refine Below.alloc ?_ (by simp) _)), by simp⟩
          case rest =>
            obtain ⟨a', HTA, x0, x1, x2, x3, xf, HBx, hlx⟩ := hcut
            clear y0 y1 y2 y3
            obtain ⟨m3, hm3⟩ : ∃ m3 : Nat, m3 = min ok.length 6 := ⟨_, rfl⟩
            have hm36 : m3 ≤ 6 ∧ m3 ≤ ok.length := by omega
            have HM3 := Lib.hid hm3
            have e3 : min (ok.length : Int) 6 = (m3 : Int) := by omega
            clear hm3
            obtain ⟨W6, hW6⟩ : ∃ W6, W6 = wc.setCell ⟨wr.heap.size, 3, none⟩ (.slice Ao m3 co) := ⟨_, rfl⟩
            have hf6 : Below wr.heap.size wr W6 := by rw [hW6]; exact below_set HBx.out (Nat.le_refl _)
            have hz6 : W6.heap.size = wc.heap.size := by rw [hW6]; simp
            have HW6 := Lib.hid hW6
            have HF6 := Lib.hid hf6
            have HS6 := Lib.hid (own_below HSR.out.row hf6)
            have hrl : r.length ≤ 12 := by rw [HRJ.out]; simp; omega
            have i3 : (0 : Int) ≤ (m3 : Int) := by omega
            have i4 : (m3 : Int) ≤ (co : Int) := by omega
            clear hW6 hf6
            go_wp2_with (at_builtin; (rw [← HW6.out]; go_loud (refine wpList_append_own_at _ rfl _ _ 29 rfl wo.heap.size 28 i0 _ 4 48 Tryz.underlying29 hinf jz0 jz1 jz2 rfl (by omega) (.slice Aq r.length cq) r.length (flatC (stC r vo2) r.length) rfl (HS6.out.alloc _) ⟨W6.heap.size, 0, none⟩ 1 1 [.int .i64 k, .int .i64 a', .int .i64 bb, .slice Ao m3 co] (by rw [hz6]; rfl) rfl (cell_newL _ _ _ _ rfl) (cells4_one _ _ _ _ _ _) (by unfold maxLen; omega) (by omega) (by simp; omega) ?_; intro v7 w7 hown7 hgrow7 _ hat7; have HO7 := Lib.hid hown7; have HG7 := Lib.hid hgrow7; have HA7 := Lib.hid hat7; clear hown7 hgrow7 hat7)))
            go_roundw
            case rel =>
              obtain ⟨A8, c8, hv8, -, -, -⟩ := own_any HO7.out
              have hqt : (tameStp m ⟨k, a, bb, ok⟩) = ⟨k, a', bb, ok.take 6⟩ := by
                have h := HTA.out
                unfold tameStp at h ⊢
                dsimp only at h ⊢
                rw [← h]
              have hget : l[j]? = some ⟨k, a, bb, ok⟩ := by
                rw [List.getElem?_eq_getElem hjl, ← HQ.out]
                unfold nthS
                rw [List.getD_eq_getElem?_getD, List.getElem?_eq_getElem hjl]
                rfl
              have hrr : r ++ [⟨k, a', bb, ok.take 6⟩] = (l.take (j + 1)).map (tameStp m) := by
                have e9 : l.take (j + 1) = l.take j ++ [⟨k, a, bb, ok⟩] := by rw [List.take_add_one, hget]; rfl
                rw [e9, HRJ.out, List.map_append, ← hqt]
                rfl
              have hown : ∀ x, (Value.slice Aq r.length cq).ownBlock = some x → wo.heap.size ≤ x ∧ x < wr.heap.size := fun x hx => HSR.out.row.lt x hx
              have hbb : Below w.heap.size w w7 := below_grown ((HBW.out.trans (HF6.out.mono (by omega))).alloc (by have := HF6.out.size; omega) _) (by have := HF6.out.size; simp; omega) HG7.out (fun x hx => by have := (hown x hx).1; omega)
              have hbo : Below wo.heap.size wo w7 := below_grown ((HBq.out.trans (HF6.out.mono (by omega))).alloc (by have := HF6.out.size; omega) _) (by have := HF6.out.size; simp; omega) HG7.out (fun x hx => (hown x hx).1)
              have hbq : Fr (fun x => (Value.slice Aq r.length cq).ownBlock = some x) wr w7 := ((Fr.of_below HF6.out).alloc _).trans' (Fr.of_grown HG7.out (fun x hx => .inl hx))
              have hm3 : (ok.take 6).length = m3 := by rw [List.length_take, HM3.out]; omega
              refine ⟨j + 1, r ++ [⟨k, a', bb, ok.take 6⟩], fun i => if i = r.length then .slice Ao m3 co else vo2 i, by omega, by go_num, Lib.hid hrr, Lib.hid ⟨?_, fun i hi => ?_⟩, Lib.hid ?_⟩
              · have e : (r ++ [(⟨k, a', bb, ok.take 6⟩ : Stp)]).length = r.length + 1 := by simp
                have e2 : flatC (stC (r ++ [⟨k, a', bb, ok.take 6⟩]) (fun i => if i = r.length then .slice Ao m3 co else vo2 i)) (r ++ [(⟨k, a', bb, ok.take 6⟩ : Stp)]).length = flatC (stC r vo2) r.length ++ [.int .i64 k, .int .i64 a', .int .i64 bb, .slice Ao m3 co] := by
                  rw [e, flatC_snoc]
                  refine flatC_congr fun i hi => ?_
                  unfold updC stC nthS
                  by_cases h : i = r.length
                  · subst h
                    simp
                  · have hlt : i < r.length := by omega
                    rw [if_neg h]
                    simp only [if_neg h, List.getD_eq_getElem?_getD, List.getElem?_append_left hlt]
                rw [e2, e]
                exact HO7.out
              · by_cases h : i = r.length
                · subst h
                  have e : nthS (r ++ [⟨k, a', bb, ok.take 6⟩]) r.length = ⟨k, a', bb, ok.take 6⟩ := by unfold nthS; simp
                  rw [if_pos rfl, e]
                  refine ⟨Ao, co, by rw [hm3], by rw [hm3]; omega, ho2, fun h0 => ?_⟩
                  rw [hm3] at h0
                  obtain ⟨b5, off5, e5, hb5, hc5⟩ := HO.out (by omega)
                  refine ⟨b5, off5, e5, hb5, fun q hq => ?_⟩
                  rw [hm3] at hq
                  have h1 := hc5 q (by omega)
                  have e6 : lst (ok.take 6) q = lst ok q := by
                    unfold lst
                    rw [List.getD_eq_getElem?_getD, List.getD_eq_getElem?_getD, List.getElem?_take_of_lt (by omega)]
                  rw [e6]
                  exact (hbb.cell (p := ⟨b5, _, none⟩) hb5).trans h1
                · have hlt : i < r.length := by rw [List.length_append] at hi; simp at hi; omega
                  have e : nthS (r ++ [⟨k, a', bb, ok.take 6⟩]) i = nthS r i := by
                    unfold nthS
                    rw [List.getD_eq_getElem?_getD, List.getD_eq_getElem?_getD, List.getElem?_append_left hlt]
                  rw [if_neg h, e]
                  exact (HSR.out.num i hlt).fr hbq (fun x hx e => by have := (hown x e).1; omega) (fun _ h => h)
              · exact hbo
            case measure => simp [intOf]; omega
        · obtain rfl : j = m2 := by omega
          have hrl : r.length ≤ 12 := by rw [HRJ.out]; simp; omega
          have hbw : Below w.heap.size w wr := HB.out.trans (HBq.out.mono hzr)
          have hout : ∀ x, (Value.slice Ar R.length cr).ownBlock = some x → w.heap.size ≤ x ∧ x < wo.heap.size := fun x hx => HR.out.row.lt x hx
          have hR2 : ScrRow wr w.heap.size (.slice Ar R.length cr) R V := HR.out.fr (Fr.of_below HBq.out)
          have hin : ScrIn wr (fun b => b < wr.heap.size ∧ (Value.slice Ar R.length cr).ownBlock ≠ some b) Aq cq r vo2 := by
            obtain ⟨Aq', cq', hvq, g1, g2, g3⟩ := own_any HSR.out.row
            injection hvq with e1 _ e3
            subst e1 e3
            refine ⟨g1, g2, by omega, fun h0 => ?_, fun k hk => (HSR.out.num k hk).fr (Fr.refl (fun _ => False) _) (fun _ _ h => h) (fun b hb => ⟨by omega, fun e => by have := (hout b e).1; omega⟩)⟩
            obtain ⟨g, cap, hv, hb0, hlt0, _⟩ := own_form HSR.out.row h0
            injection hv with e1 _ _
            refine ⟨g, 0, e1, ⟨hlt0, fun e => by have := (hout g e).2; omega⟩, fun k hk q u hu => ?_⟩
            have hq4 : q < 4 := (List.getElem?_eq_some_iff.1 hu).1
            subst e1
            have h1 := own_cellC HSR.out.row (stC_len _ _) hk hq4
            rw [Nat.zero_add]
            exact h1.trans hu
          have HR2 := Lib.hid hR2
          have HIN := Lib.hid hin
          have HOUT := Lib.hid hout
          have hRl : R.length ≤ 1000 := by rw [HRL.out]; simp; omega
          clear hR2 hin hout
          go_wp2_with (at_builtin; go_loud (refine wpList_push_in rfl _ _ rfl w.heap.size (.slice Ar R.length cr) R V rfl HR2.out (Fr.refl _ _) Aq cq r.length r vo2 rfl HIN.out wr.heap.size rfl rfl hRl (by have := hbw.size; omega) ?_; intro v9 w9 V9 hr9 hf9 hb9; have HR9 := Lib.hid hr9; have HF9 := Lib.hid hf9; clear hr9 hf9 hb9))
          go_roundw
          case rel =>
            obtain ⟨A9, c9, hv9, -, -, -⟩ := own_any HR9.out.row
            refine ⟨i + 1, R ++ [r], V9, by omega, by go_num, Lib.hid ?_, HR9, Lib.hid ?_⟩
            · have hgl : L[i]? = some l := by
                rw [List.getElem?_eq_getElem (show i < L.length by omega), ← HL.out, List.getD_eq_getElem?_getD, List.getElem?_eq_getElem (show i < L.length by omega)]
                rfl
              have e9 : L.take (i + 1) = L.take i ++ [l] := by rw [List.take_add_one, hgl]; rfl
              have er : r = tameScr m l := by
                rw [HRJ.out]
                unfold tameScr
                by_cases h12 : l.length ≤ 12
                · rw [show j = l.length by have := HM2.out; omega, List.take_length, List.take_of_length_le h12]
                · rw [show j = 12 by have := HM2.out; omega]
              rw [e9, HRL.out, List.map_append, er]
              rfl
            · exact hbw.trans (HF9.out.below (fun x hx => (HOUT.out x hx).1) hbw.size)
          case measure => simp [intOf]; omega
    · obtain rfl : i = m := by omega
      go_wp2_with fail
      refine bodyPost_ret (v := .slice Ar R.length cr) (by simp [results, Tryz.results27, go_sem]) rfl ?_
      refine ⟨_, V, rfl, ?_, HB.out⟩
      have hR := HR.out
      have e : R = tameL L := by
        rw [HRL.out]
        unfold tameL
        rw [HM.out]
        congr 1
        by_cases h5 : L.length ≤ 5
        · rw [show min L.length 5 = L.length by omega, List.take_length, List.take_of_length_le h5]
        · rw [show min L.length 5 = 5 by omega]
      rw [e] at hR ⊢
      exact hR
end Go.Proofs.YtjjfglbcikaicaaGreat
namespace Go.Proofs.YtjjfglbcikaicaaGreat
open Go.RowKit
set_option linter.unusedVariables false
set_option linter.unusedSimpArgs false
def fuelN (x : Int) : Nat := 1 + ((IntKind.u64.wrap x).tmod ((20 : Nat) : Int)).toNat
def begunI (L : List (List Stp)) (x : Int) (l : List Dd) (i : Nat) : NdS := (l.take (min i 40)).foldl doN (newN 1 L (fuelN x))
def begunN (L : List (List Stp)) (x : Int) (l : List Dd) : NdS := (l.take 40).foldl doN (newN 1 L (fuelN x))
theorem begunI_up {L : List (List Stp)} {x : Int} {l : List Dd} {i : Nat} (h : i < l.length) (h4 : i < 40) : begunI L x l (i + 1) = doN (begunI L x l i) (nthDd l i) := by
  unfold begunI
  rw [show min (i + 1) 40 = i + 1 by omega, show min i 40 = i by omega, List.take_add_one, List.getElem?_eq_getElem h, List.foldl_append]
  unfold nthDd
  rw [List.getD_eq_getElem?_getD, List.getElem?_eq_getElem h]
  rfl
theorem begunI_same {L : List (List Stp)} {x : Int} {l : List Dd} {i : Nat} (h4 : ¬ i < 40) : begunI L x l (i + 1) = begunI L x l i := by
  unfold begunI
  rw [show min (i + 1) 40 = min i 40 by omega]
theorem begunI_end {L : List (List Stp)} {x : Int} {l : List Dd} : begunI L x l l.length = begunN L x l := by
  unfold begunI begunN
  congr 1
  by_cases h : l.length ≤ 40
  · rw [show min l.length 40 = l.length by omega, List.take_length, List.take_of_length_le h]
  · rw [show min l.length 40 = 40 by omega]
theorem fuelN_le (x : Int) : 1 ≤ fuelN x ∧ fuelN x ≤ 20 := by
  unfold fuelN
  obtain ⟨g0, g1⟩ := u64_wrap_range x
  rw [Int.tmod_eq_emod_of_nonneg g0]
  omega
def BegunPost (X0 : Nat → Prop) (base : Nat) (N : NdS) (w : World) (e : Ending) (w' : World) : Prop :=
  ∃ p P X M, e = .returned (.pointer (some ⟨p, 0, none⟩)) ∧ Fr (fun _ => False) w w' ∧ (∀ k, X0 k → X k) ∧ (∀ k, X k → X0 k ∨ w.heap.size ≤ k) ∧ (∀ k, M k → w.heap.size ≤ k) ∧ NodeAt w' X M base 10000000000 p P N ∧ AllA TkOk N
set_option maxRecDepth 100000 in
set_option maxHeartbeats 8000000 in
theorem begun_any (X0 : Nat → Prop) (base : Nat) (A : Option Addr) (c : Nat) (L : List (List Stp)) (x : Int) (v : Value) (l : List Dd) (w : World) (hX : ∀ k, X0 k → k < w.heap.size) (hb : base ≤ w.heap.size) (hS : ScrsAt w base A c L) (hL : ∀ l, l ∈ L → StpsWf l) (hl : ArgDds w v l) :
    Calls Tryz.prog 26 #[.slice A L.length c, .int .i64 x, v] w (BegunPost X0 base (begunN L x l) w) := by
  obtain ⟨Ad, cd, rfl, hd1, hd2, hRd, hdw⟩ := hl
  have HRD := Lib.hid hRd
  have HDW := Lib.hid hdw
  have hfz := fuelN_le x
  have hwrap := wrap_rem x 20 (by omega) (by omega)
  have hfe : wrap64 (1 + wrap64 ((IntKind.u64.wrap x).tmod 20)) = ((fuelN x : Nat) : Int) := by
    have h' : wrap64 ((IntKind.u64.wrap x).tmod 20) = ((((IntKind.u64.wrap x).tmod ((20 : Nat) : Int)).toNat : Nat) : Int) := hwrap
    rw [h']
    have : fuelN x = 1 + ((IntKind.u64.wrap x).tmod ((20 : Nat) : Int)).toNat := rfl
    unfold wrap64
    omega
  have HFE := Lib.hid hfe
  have HNEW := Lib.hid (new_any X0 base 1 A c L (fuelN x) w hX hb hS hL ⟨by omega, by omega⟩ ⟨by omega, by omega⟩)
  clear hRd hdw hwrap hfe hX hS hL
  go_enter Tryz.func26, Tryz.ntmps26
  go_wp2_with fail
  rw [HFE.out]
  refine HNEW.out.mono ?_
  rintro e w1 ⟨p, P, rfl, hp, hf1, hn1⟩
  have HF1 := Lib.hid hf1
  have HN1 := Lib.hid hn1
  clear hf1 hn1 HNEW
  go_wp2_with fail
  go_loopw [9, 10, 26] (fun _ _ v26 wr => ∃ (i : Nat) (Pi : Int → Nat) (Xi Mi : Nat → Prop), i ≤ l.length ∧ v26 = .int .i64 (i : Int) ∧ Hid (Gr (fun k => X0 k ∨ w.heap.size ≤ k ∧ k < w1.heap.size) (fun k => w.heap.size ≤ k ∧ k < w1.heap.size) w1 Xi Mi wr) ∧ Hid (NodeAt wr Xi Mi base (100000000 * min i 40) p Pi (begunI L x l i)) ∧ Hid (AllA TkOk (begunI L x l i))) (fun _ _ v26 _ => l.length - (intOf v26).toNat)
  case atStart => exact ⟨0, P, _, _, Nat.zero_le _, rfl, Lib.hid (Gr.refl _ _ _), HN1, Lib.hid (fun a ha => by cases ha)⟩
  case round =>
    obtain ⟨i, Pi, Xi, Mi, hi, rfl, HGi, HNi, HIi⟩ := hrel
    have hlim4 : min i 40 ≤ 40 := Nat.min_le_right _ _
    by_cases hlt : i < l.length
    · obtain ⟨b, off, rfl, hbl, hcell⟩ := HRD.out (by omega)
      have hfr : Fr (fun k => w.heap.size ≤ k) w wr := (HF1.out.weak (fun _ h => h.elim)).trans (HGi.out.fr.weak (S2 := fun k => w.heap.size ≤ k) (fun k hk => hk.1)) (fun k hk => .inl hk)
      have hnb : ¬ w.heap.size ≤ b := by omega
      obtain ⟨d, hd⟩ : ∃ d, nthDd l i = d := ⟨_, rfl⟩
      have hc := hcell i hlt
      have hdwi := HDW.out i hlt
      dsimp only at hc
      rw [hd] at hc hdwi
      have c0 : wr.cell? ⟨b, off + i * 4, none⟩ = some (.int .i64 d.kind) := hfr.cell (hc 0 _ rfl) hnb
      have c1 : wr.cell? ⟨b, off + i * 4 + 1, none⟩ = some (.int .i64 d.n) := hfr.cell (hc 1 _ rfl) hnb
      have c2 : wr.cell? ⟨b, off + i * 4 + 2, none⟩ = some (.int .i64 d.ref) := hfr.cell (hc 2 _ rfl) hnb
      have c3 : wr.cell? ⟨b, off + i * 4 + 3, none⟩ = some (.int .i64 d.num) := hfr.cell (hc 3 _ rfl) hnb
      have hbr : b < wr.heap.size := Nat.lt_of_lt_of_le hbl hfr.size
      have i1 : (0 : Int) ≤ (i : Int) := by omega
      have i2 : (i : Int) < (l.length : Int) := by omega
      have HD := Lib.hid hd
      have HDI := Lib.hid hdwi
      clear hcell hc hfr hnb hd hdwi
      by_cases h4 : i < 40
      · have HDO := Lib.hid (fun (W : World) (hf : Fr (fun _ => False) wr W) => do_any (HNi.out.new hf (fun _ h => h)) HIi.out d HDI.out (by omega))
        have HUP := Lib.hid (begunI_up (L := L) (x := x) hlt h4)
        have HIU := Lib.hid (doN_all tk_inv HIi.out d)
        unfold ddC at HDO
        have g4 : decide ((i : Int) < 40) = true := decide_eq_true (by omega)
        go_wp2_with fail
        refine (HDO.out _ (by (repeat' first | with_reducible exact Fr.refl _ _ | (with_reducible refine Fr.setEq ?_ _) | (with_reducible refine Fr.setNew ?_ _) | with_reducible refine Fr.alloc ?_ _ | with_reducible refine Fr.drewN ?_ _ | with_reducible refine Fr.drew ?_))).mono ?_
        rintro e w5 ⟨rfl, P5, X5, M5, hg5, hn5⟩
        have HG5 := Lib.hid (HGi.out.trans ((Gr.new (show Fr (fun _ => False) wr _ by (repeat' first | with_reducible exact Fr.refl _ _ | (with_reducible refine Fr.setEq ?_ _) | (with_reducible refine Fr.setNew ?_ _) | with_reducible refine Fr.alloc ?_ _ | with_reducible refine Fr.drewN ?_ _ | with_reducible refine Fr.drew ?_))).trans hg5))
        have HN5 := Lib.hid hn5
        clear hg5 hn5 HDO
        go_wp2_with fail
        go_roundw
        case rel =>
          refine ⟨i + 1, P5, X5, M5, by omega, by go_num, HG5, Lib.hid ?_, Lib.hid ?_⟩
          · rw [HUP.out, HD.out]
            exact HN5.out.up (by omega)
          · rw [HUP.out, HD.out]
            exact HIU.out
        case measure => simp [intOf]; omega
      · have HUP := Lib.hid (begunI_same (L := L) (x := x) (l := l) h4)
        have g4 : decide ((i : Int) < 40) = false := decide_eq_false (by omega)
        clear h4
        go_wp2_with fail
        go_roundw
        case rel =>
          refine ⟨i + 1, Pi, Xi, Mi, by omega, by go_num, Lib.hid (HGi.out.trans (Gr.new (show Fr (fun _ => False) wr _ by (repeat' first | with_reducible exact Fr.refl _ _ | (with_reducible refine Fr.setEq ?_ _) | (with_reducible refine Fr.setNew ?_ _) | with_reducible refine Fr.alloc ?_ _ | with_reducible refine Fr.drewN ?_ _ | with_reducible refine Fr.drew ?_)))), Lib.hid ?_, Lib.hid ?_⟩
          · rw [HUP.out]
            exact (HNi.out.new (show Fr (fun _ => False) wr _ by (repeat' first | with_reducible exact Fr.refl _ _ | (with_reducible refine Fr.setEq ?_ _) | (with_reducible refine Fr.setNew ?_ _) | with_reducible refine Fr.alloc ?_ _ | with_reducible refine Fr.drewN ?_ _ | with_reducible refine Fr.drew ?_)) (fun _ h => h)).up (by omega)
          · rw [HUP.out]
            exact HIi.out
        case measure => simp [intOf]; omega
    · obtain rfl : i = l.length := by omega
      go_wp2_with fail
      refine bodyPost_ret (v := .pointer (some ⟨p, 0, none⟩)) (by simp [results, Tryz.results26, go_sem]) rfl ?_
      have hz1 := HF1.out.size
      refine ⟨p, Pi, Xi, Mi, rfl, ?_, fun k hk => HGi.out.up k (.inl hk), fun k hk => ?_, fun k hk => ?_, ?_, ?_⟩
      · exact ⟨HGi.out.fr.os.trans HF1.out.os, HGi.out.fr.tape.trans HF1.out.tape, HGi.out.fr.output.trans HF1.out.output, Nat.le_trans hz1 HGi.out.fr.size, fun k hk _ => (HGi.out.fr.block k (by omega) (fun h => by have := h.1; omega)).trans (HF1.out.block k hk (fun h => h))⟩
      · rcases HGi.out.xs k hk with (h | h) | h
        · exact .inl h
        · exact .inr h.1
        · exact .inr (by omega)
      · rcases HGi.out.ms k hk with h | h
        · exact h.1
        · omega
      · rw [← begunI_end]
        exact HNi.out.up (by omega)
      · rw [← begunI_end]
        exact HIi.out
end Go.Proofs.YtjjfglbcikaicaaGreat
namespace Go.Proofs.YtjjfglbcikaicaaGreat
open Go.RowKit
set_option linter.unusedVariables false
set_option linter.unusedSimpArgs false
theorem tameL_wf {L : List (List Stp)} (h : ∀ l, l ∈ L → StpsWf l) : ∀ l, l ∈ tameL L → StpsWf l := fun l hl => by
  unfold tameL at hl
  obtain ⟨l0, hl0, rfl⟩ := List.mem_map.1 hl
  intro s hs
  unfold tameScr at hs
  obtain ⟨q, hq, rfl⟩ := List.mem_map.1 hs
  have hw := h l0 (List.mem_of_mem_take hl0) q (List.mem_of_mem_take hq)
  refine ⟨?_, hw.2⟩
  unfold tameStp
  dsimp only
  split
  · exact Wf.of (by omega) (by omega)
  · split
    · obtain ⟨g0, g1⟩ := u64_wrap_range q.a
      have hm : min L.length 5 ≤ 5 := by omega
      have h0 : 0 ≤ (IntKind.u64.wrap q.a).tmod ((min L.length 5 : Nat) : Int) := Int.tmod_nonneg _ g0
      by_cases hz : min L.length 5 = 0
      · exfalso
        have hne : 0 < L.length := List.length_pos_of_mem (List.mem_of_mem_take hl0)
        omega
      · have h2 : (IntKind.u64.wrap q.a).tmod ((min L.length 5 : Nat) : Int) < ((min L.length 5 : Nat) : Int) := Int.tmod_lt_of_pos _ (by omega)
        exact Wf.of (by omega) (by omega)
    · exact hw.1
theorem tameL_len (L : List (List Stp)) : (tameL L).length ≤ 5 := by
  unfold tameL
  simp
  omega
/-- what tame makes, as begun takes it -/
theorem tame_scr (v : Value) (L : List (List Stp)) (w : World) (hA : ArgScrs w (fun b => b < w.heap.size) v L) :
    Calls Tryz.prog 27 #[v] w fun e w' => ∃ A c, e = .returned (.slice A (tameL L).length c) ∧ ScrsAt w' w'.heap.size A c (tameL L) ∧ Below w.heap.size w w' := by
  refine (tame_any v L w hA).mono ?_
  rintro e w' ⟨v', V', rfl, hr, hb⟩
  obtain ⟨A, c, rfl, hs⟩ := hr.scrs (by have := tameL_len L; omega)
  exact ⟨A, c, rfl, hs, hb⟩
theorem ArgScrs.wf {w : World} {B : Nat → Prop} {v : Value} {L : List (List Stp)} (h : ArgScrs w B v L) : ∀ l, l ∈ L → StpsWf l := by
  obtain ⟨A, c, e, h1, h2, h3, h4⟩ := h
  exact h3
theorem ArgDds.below {w w' : World} {v : Value} {l : List Dd} (h : ArgDds w v l) (hb : Below w.heap.size w w') : ArgDds w' v l := by
  obtain ⟨A, c, e, h1, h2, h3, h4⟩ := h
  exact ⟨A, c, e, h1, h2, h3.below hb, h4⟩
theorem turnN_err {N : NdS} (h : (turnN N).2.2 ≠ 0) : turnN N = (N, 0, 4) := by
  unfold turnN at h ⊢
  by_cases h0 : readyN N = []
  · rw [if_pos h0]
  · rw [if_neg h0] at h
    exact absurd rfl h
end Go.Proofs.YtjjfglbcikaicaaGreat
namespace Go.Proofs.YtjjfglbcikaicaaGreat
open Go.RowKit Go.ChangeShapes Go.WideShapes Go.Deep
set_option linter.unusedVariables false
set_option maxRecDepth 100000 in
theorem open_intsW {H : Type} {enc : TypeId × Value → H} {W : World} {base : Nat} {v : Value} {d : DataW H} {p : List MemPlace} (k0 : Value.okWide Tryz.prog W .any base 26 v) (h0 : DataW.Trod enc Tryz.prog W 0 (fun _ => true) true 26 v d p) :
    ∃ A n c T, v = .slice A n c ∧ n ≤ c ∧ c ≤ 9223372036854775807 ∧ (A = none → n = 0) ∧ Rd W 1 (tmC T) A n ∧ ∀ i, i < n → (Lit.int .i64 (T i)).wf = true := by
  obtain ⟨a0, l0, cp0, rfl⟩ := okWide_slice Tryz.underlying26 k0
  obtain ⟨fuel, hf⟩ := h0
  obtain ⟨A, n, c, C, hcs, hnc, hcm, hA, hR, hlen, hel⟩ := open_rows Tryz.underlying26 (by kernel_rfl) (sz := 1) (by omega) hf
  have hv : Value.slice a0 l0 cp0 = .slice A n c := by simpa [Value.cells] using hcs
  have hvi : ∀ j, ∃ z : Int, j < n → C j = [.int .i64 z] ∧ (Lit.int .i64 z).wf = true := fun j => by
    by_cases hj : j < n
    · obtain ⟨m2, q2, hy2⟩ := hel j hj
      obtain ⟨z, e, _, hw⟩ := DataW.trod_int Tryz.underlying3 hy2
      exact ⟨z, fun _ => ⟨e, hw⟩⟩
    · exact ⟨0, fun h => absurd h hj⟩
  obtain ⟨Z, hZ⟩ := Classical.axiomOfChoice hvi
  exact ⟨A, n, c, Z, hv, hnc, hcm, hA, hR.congr fun k hk => by unfold tmC; rw [(hZ k hk).1], fun i hi => (hZ i hi).2⟩
theorem equalI_same (A B : Option Addr) (n m c d : Nat) (T U : Nat → Int) (w : World) (hnm : n = m) (hn : n ≤ 9223372036854775807) (hT : Rd w 1 (tmC T) A n) (hU : Rd w 1 (tmC U) B m) (he : ∀ k, k < n → T k = U k) :
    Calls Tryz.prog 30 #[.slice A n c, .slice B m d] w fun e w' => e = .returned (.bool true) ∧ Below w.heap.size w w' := by
  subst hnm
  refine (equalI_any A B n c n d T U w hn hn hT hU).mono ?_
  rintro e w' ⟨rfl, q, rfl⟩
  refine ⟨ret_bool ?_, below_drewN (Below.refl _ _) _⟩
  rw [anyOf_false.2 (fun j hj => by simp [he j hj])]
  simp
end Go.Proofs.YtjjfglbcikaicaaGreat
