/- Letters as data in memory, and the contracts of copies.Letter and copies.Each over letters. -/
import Derived.Test.YtjalgnpbdcefdaaCopy
namespace Go.Proofs.Ytjalgnpbdcefdaa
open Go.RowKit
set_option linter.unusedVariables false
structure LT where
  kind : Int
  frm : Int
  to : Int
  num : Int
  text : ByteArray
  val : VT
def LT.isL (w : World) (S : Nat → Prop) (l : LT) (cs : List Value) : Prop := ∃ k2 m2 s2 A2 n2 c2, cs = [.int .i64 l.kind, .int .i64 l.frm, .int .i64 l.to, .int .i64 l.num, .string l.text, .int .i64 k2, .int .i64 m2, .string s2, .slice A2 n2 c2] ∧ l.val.isV w S [.int .i64 k2, .int .i64 m2, .string s2, .slice A2 n2 c2]
theorem isL_len {w : World} {S : Nat → Prop} {l : LT} {cs : List Value} (h : l.isL w S cs) : cs.length = 9 := by
  obtain ⟨_, _, _, _, _, _, rfl, _⟩ := h; rfl
theorem isL_one {w : World} {S : Nat → Prop} {l : LT} {cs : List Value} (h : l.isL w S cs) : ∀ u ∈ cs, u.oneCell' = true := by
  obtain ⟨_, _, _, _, _, _, rfl, _⟩ := h
  intro u hu
  simp at hu
  rcases hu with rfl | rfl | rfl | rfl | rfl | rfl | rfl | rfl | rfl <;> rfl
theorem isL_frame {w w' : World} {S S' : Nat → Prop} (hsz : w.heap.size ≤ w'.heap.size) (hS : ∀ b, S b → b < w.heap.size → S' b ∧ w'.heap[b]? = w.heap[b]?) {l : LT} {cs : List Value} (h : l.isL w S cs) : l.isL w' S' cs := by
  obtain ⟨k2, m2, s2, A2, n2, c2, rfl, hv⟩ := h
  exact ⟨k2, m2, s2, A2, n2, c2, rfl, isV_frame hsz hS hv⟩
theorem isL_below {w w' : World} {S : Nat → Prop} {l : LT} {cs : List Value} (h : l.isL w S cs) (hb : Below w.heap.size w w') : l.isL w' S cs :=
  isL_frame hb.size (fun b hs hlt => ⟨hs, hb.block b hlt⟩) h
theorem infoL : (Try.prog.info? 44).map (fun i => (i.zero, i.size, i.bytes)) = some (some (.agg #[.int .i64 0, .int .i64 0, .int .i64 0, .int .i64 0, .string ⟨#[]⟩, .int .i64 0, .int .i64 0, .string ⟨#[]⟩, .slice none 0 0]), 9, 104) := by kernel_rfl
def LCopyPost (l : LT) (w : World) (e : Ending) (w' : World) : Prop := ∃ cs', e = .returned (.agg cs'.toArray) ∧ l.isL w' (fun b => w.heap.size ≤ b) cs' ∧ Below w.heap.size w w'
set_option maxRecDepth 100000 in
set_option maxHeartbeats 1000000 in
theorem lcopy_any (l : LT) (cs : List Value) (S : Nat → Prop) (w : World) (h : l.isL w S cs) (hm : l.val.many ≤ 4194304) : Calls Try.prog 41 #[.agg cs.toArray] w (LCopyPost l w) := by
  obtain ⟨k2, m2, s2, A2, n2, c2, rfl, hv⟩ := h
  have HC := Lib.hid (fun W hW => copy_any l.val [.int .i64 k2, .int .i64 m2, .string s2, .slice A2 n2 c2] S W hW hm)
  have HV := Lib.hid hv
  obtain ⟨k, f, t, n, s, val⟩ := l
  dsimp only at HC HV hm ⊢
  clear hv
  go_enter Try.func41, Try.ntmps41
  go_wp2_with fail
  refine (HC.out _ (isV_below HV.out (((Below.refl _ _).alloc (Nat.le_refl _) _).alloc (by simp) _))).mono ?_
  rintro e w1 ⟨cs', rfl, hV1, hb1⟩
  obtain ⟨k3, m3, s3, A3, n3, c3, rfl⟩ := isV_cells hV1
  have hz1 : w.heap.size + 2 ≤ w1.heap.size := by have := hb1.size; simp at this; omega
  have HF := Lib.hid (fun (w2 : World) (hsz : w1.heap.size ≤ w2.heap.size) (hh : ∀ b, w.heap.size + 2 ≤ b → b < w1.heap.size → w2.heap[b]? = w1.heap[b]?) => isV_frame (w' := w2) (S' := fun b => w.heap.size ≤ b) hsz (fun b hs hl => ⟨by simp at hs; omega, hh b (by simpa using hs) hl⟩) hV1)
  have x0 : w1.cell? ⟨w.heap.size, 0, none⟩ = some (.int .i64 k) := (hb1.cell (p := ⟨_, _, none⟩) (by simp; omega)).trans (by simp)
  have x1 : w1.cell? ⟨w.heap.size, 1, none⟩ = some (.int .i64 f) := (hb1.cell (p := ⟨_, _, none⟩) (by simp; omega)).trans (by simp)
  have x2 : w1.cell? ⟨w.heap.size, 2, none⟩ = some (.int .i64 t) := (hb1.cell (p := ⟨_, _, none⟩) (by simp; omega)).trans (by simp)
  have x3 : w1.cell? ⟨w.heap.size, 3, none⟩ = some (.int .i64 n) := (hb1.cell (p := ⟨_, _, none⟩) (by simp; omega)).trans (by simp)
  have x4 : w1.cell? ⟨w.heap.size, 4, none⟩ = some (.string s) := (hb1.cell (p := ⟨_, _, none⟩) (by simp; omega)).trans (by simp)
  have x5 : w1.cell? ⟨w.heap.size, 5, none⟩ = some (.int .i64 k2) := (hb1.cell (p := ⟨_, _, none⟩) (by simp; omega)).trans (by simp)
  have x6 : w1.cell? ⟨w.heap.size, 6, none⟩ = some (.int .i64 m2) := (hb1.cell (p := ⟨_, _, none⟩) (by simp; omega)).trans (by simp)
  have x7 : w1.cell? ⟨w.heap.size, 7, none⟩ = some (.string s2) := (hb1.cell (p := ⟨_, _, none⟩) (by simp; omega)).trans (by simp)
  have x8 : w1.cell? ⟨w.heap.size, 8, none⟩ = some (.slice A2 n2 c2) := (hb1.cell (p := ⟨_, _, none⟩) (by simp; omega)).trans (by simp)
  have y0 : w1.cell? ⟨w.heap.size + 1, 0, none⟩ = some (.int .i64 0) := (hb1.cell (p := ⟨_, _, none⟩) (by simp)).trans (by simp)
  have y1 : w1.cell? ⟨w.heap.size + 1, 1, none⟩ = some (.int .i64 0) := (hb1.cell (p := ⟨_, _, none⟩) (by simp)).trans (by simp)
  have y2 : w1.cell? ⟨w.heap.size + 1, 2, none⟩ = some (.int .i64 0) := (hb1.cell (p := ⟨_, _, none⟩) (by simp)).trans (by simp)
  have y3 : w1.cell? ⟨w.heap.size + 1, 3, none⟩ = some (.int .i64 0) := (hb1.cell (p := ⟨_, _, none⟩) (by simp)).trans (by simp)
  have y4 : w1.cell? ⟨w.heap.size + 1, 4, none⟩ = some (.string ⟨#[]⟩) := (hb1.cell (p := ⟨_, _, none⟩) (by simp)).trans (by simp)
  have y5 : w1.cell? ⟨w.heap.size + 1, 5, none⟩ = some (.int .i64 0) := (hb1.cell (p := ⟨_, _, none⟩) (by simp)).trans (by simp)
  have y6 : w1.cell? ⟨w.heap.size + 1, 6, none⟩ = some (.int .i64 0) := (hb1.cell (p := ⟨_, _, none⟩) (by simp)).trans (by simp)
  have y7 : w1.cell? ⟨w.heap.size + 1, 7, none⟩ = some (.string ⟨#[]⟩) := (hb1.cell (p := ⟨_, _, none⟩) (by simp)).trans (by simp)
  have y8 : w1.cell? ⟨w.heap.size + 1, 8, none⟩ = some (.slice none 0 0) := (hb1.cell (p := ⟨_, _, none⟩) (by simp)).trans (by simp)
  have fx : ∀ o, w1.frozen? ⟨w.heap.size, o, none⟩ = false := fun o => (hb1.frozen (p := ⟨_, _, none⟩) (by simp; omega)).trans (by simp)
  have fy : ∀ o, w1.frozen? ⟨w.heap.size + 1, o, none⟩ = false := fun o => (hb1.frozen (p := ⟨_, _, none⟩) (by simp)).trans (by simp)
  have HB := Lib.hid ((((Below.refl w.heap.size w).alloc (Nat.le_refl _) _).alloc (by simp) _).trans (hb1.mono (by simp; omega)))
  clear hV1 hb1
  go_wp2_with fail
  refine bodyPost_ret (v := .agg #[.int .i64 k, .int .i64 f, .int .i64 t, .int .i64 n, .string s, .int .i64 k3, .int .i64 m3, .string s3, .slice A3 n3 c3]) (by simp [results, Try.results41, go_sem, y0, y1, y2, y3, y4, y5, y6, y7, y8]) rfl ⟨[.int .i64 k, .int .i64 f, .int .i64 t, .int .i64 n, .string s, .int .i64 k3, .int .i64 m3, .string s3, .slice A3 n3 c3], rfl, ⟨k3, m3, s3, A3, n3, c3, rfl, HF.out _ (by simp) (fun b hb _ => ?_)⟩, ?_⟩
  · rw [Below.heap_setCell _ _ _ _ (by show b ≠ w.heap.size + 1; omega), Below.heap_setCell _ _ _ _ (by show b ≠ w.heap.size + 1; omega), Below.heap_setCell _ _ _ _ (by show b ≠ w.heap.size + 1; omega), Below.heap_setCell _ _ _ _ (by show b ≠ w.heap.size + 1; omega), Below.heap_setCell _ _ _ _ (by show b ≠ w.heap.size + 1; omega), Below.heap_setCell _ _ _ _ (by show b ≠ w.heap.size + 1; omega), Below.heap_setCell _ _ _ _ (by show b ≠ w.heap.size + 1; omega), Below.heap_setCell _ _ _ _ (by show b ≠ w.heap.size + 1; omega), Below.heap_setCell _ _ _ _ (by show b ≠ w.heap.size + 1; omega), Below.heap_setCell _ _ _ _ (by show b ≠ w.heap.size; omega), Below.heap_setCell _ _ _ _ (by show b ≠ w.heap.size; omega), Below.heap_setCell _ _ _ _ (by show b ≠ w.heap.size; omega), Below.heap_setCell _ _ _ _ (by show b ≠ w.heap.size; omega)]
  · exact (((((((((((((HB.out.setCell (p := ⟨w.heap.size, 5, none⟩) (Nat.le_refl _) _).setCell (p := ⟨w.heap.size, 6, none⟩) (Nat.le_refl _) _).setCell (p := ⟨w.heap.size, 7, none⟩) (Nat.le_refl _) _).setCell (p := ⟨w.heap.size, 8, none⟩) (Nat.le_refl _) _).setCell (p := ⟨w.heap.size + 1, 0, none⟩) (Nat.le_succ _) _).setCell (p := ⟨w.heap.size + 1, 1, none⟩) (Nat.le_succ _) _).setCell (p := ⟨w.heap.size + 1, 2, none⟩) (Nat.le_succ _) _).setCell (p := ⟨w.heap.size + 1, 3, none⟩) (Nat.le_succ _) _).setCell (p := ⟨w.heap.size + 1, 4, none⟩) (Nat.le_succ _) _).setCell (p := ⟨w.heap.size + 1, 5, none⟩) (Nat.le_succ _) _).setCell (p := ⟨w.heap.size + 1, 6, none⟩) (Nat.le_succ _) _).setCell (p := ⟨w.heap.size + 1, 7, none⟩) (Nat.le_succ _) _).setCell (p := ⟨w.heap.size + 1, 8, none⟩) (Nat.le_succ _) _)

def LEachPost (n : Nat) (arg : Nat → LT) (w : World) (e : Ending) (w' : World) : Prop :=
  ∃ v C, e = .returned v ∧ w'.ownsRow w.heap.size 44 9 v n (flatC C n) ∧ (∀ i, (C i).length = 9) ∧ (∀ i, i < n → (arg i).isL w' (fun b => w.heap.size ≤ b ∧ some b ≠ v.ownBlock) (C i)) ∧ Below w.heap.size w w'
theorem cell_nine_new (w : World) (a b c d e f g h i : Value) (t : TypeId) : ∀ j u, [a, b, c, d, e, f, g, h, i][j]? = some u → (w.alloc (.cells #[a, b, c, d, e, f, g, h, i] t)).cell? ((⟨w.heap.size, 0, none⟩ : Addr).add j) = some u := by
  intro j u hj
  match j, hj with
  | 0, hj => simp at hj; subst hj; simp [Addr.add]
  | 1, hj => simp at hj; subst hj; simp [Addr.add]
  | 2, hj => simp at hj; subst hj; simp [Addr.add]
  | 3, hj => simp at hj; subst hj; simp [Addr.add]
  | 4, hj => simp at hj; subst hj; simp [Addr.add]
  | 5, hj => simp at hj; subst hj; simp [Addr.add]
  | 6, hj => simp at hj; subst hj; simp [Addr.add]
  | 7, hj => simp at hj; subst hj; simp [Addr.add]
  | 8, hj => simp at hj; subst hj; simp [Addr.add]
theorem leach_step {wr w1 w2 : World} {base : Nat} {o o' : Obj} {v v' : Value} {t : LT} {cs : List Value} (hb1 : Below (wr.alloc o).heap.size (wr.alloc o) w1) (hg : (w1.alloc o').grownBy w2 v.ownBlock)
    (hat : v'.ownBlock = v.ownBlock ∨ v'.ownBlock = some (w1.alloc o').heap.size) (h : t.isL wr (fun b => base ≤ b ∧ some b ≠ v.ownBlock) cs) : t.isL w2 (fun b => base ≤ b ∧ some b ≠ v'.ownBlock) cs := by
  obtain ⟨k2, m2, s2, A2, n2, c2, rfl, hv⟩ := h
  exact ⟨k2, m2, s2, A2, n2, c2, rfl, each_step hb1 hg hat hv⟩
theorem leach_new {wr w1 w2 : World} {base : Nat} {o o' : Obj} {v v' : Value} {t : LT} {cs : List Value} (hbase : base ≤ wr.heap.size) (hv : ∀ k, v.ownBlock = some k → k < wr.heap.size) (hb1 : Below (wr.alloc o).heap.size (wr.alloc o) w1) (hg : (w1.alloc o').grownBy w2 v.ownBlock)
    (hat : v'.ownBlock = v.ownBlock ∨ v'.ownBlock = some (w1.alloc o').heap.size) (h : t.isL w1 (fun b => (wr.alloc o).heap.size ≤ b) cs) : t.isL w2 (fun b => base ≤ b ∧ some b ≠ v'.ownBlock) cs := by
  obtain ⟨k2, m2, s2, A2, n2, c2, rfl, h⟩ := h
  exact ⟨k2, m2, s2, A2, n2, c2, rfl, each_new hbase hv hb1 hg hat h⟩
theorem lcopy_enters : Enters Try.prog 41 := fun _ _ => by kernel_rfl
/-- letters that lie in a slice -/
def RdL (w : World) (S : Nat → Prop) (A : Option Addr) (n : Nat) (arg : Nat → LT) : Prop :=
  0 < n → ∃ b off, A = some ⟨b, off, none⟩ ∧ b < w.heap.size ∧ S b ∧ ∃ C : Nat → List Value, ∀ i, i < n → (arg i).isL w S (C i) ∧ ∀ j u, (C i)[j]? = some u → w.cell? ⟨b, off + i * 9 + j, none⟩ = some u
theorem RdL.frame {w w' : World} {S S' : Nat → Prop} {A : Option Addr} {n : Nat} {arg : Nat → LT} (h : RdL w S A n arg) (hsz : w.heap.size ≤ w'.heap.size) (hS : ∀ b, S b → b < w.heap.size → S' b ∧ w'.heap[b]? = w.heap[b]?) : RdL w' S' A n arg := fun h0 => by
  obtain ⟨b, off, hA, hb, hSb, C, hC⟩ := h h0
  obtain ⟨s1, s2⟩ := hS b hSb hb
  exact ⟨b, off, hA, by omega, s1, C, fun i hi => ⟨isL_frame hsz hS (hC i hi).1, fun j u hu => (World.cell?_of_block (a := ⟨b, _, none⟩) s2).trans ((hC i hi).2 j u hu)⟩⟩
theorem RdL.below {w w' : World} {S : Nat → Prop} {A : Option Addr} {n : Nat} {arg : Nat → LT} (h : RdL w S A n arg) (hb : Below w.heap.size w w') : RdL w' S A n arg := h.frame hb.size (fun b hs hlt => ⟨hs, hb.block b hlt⟩)
set_option maxRecDepth 100000 in
set_option maxHeartbeats 2000000 in
theorem leach_any (n c : Nat) (A : Option Addr) (arg : Nat → LT) (S : Nat → Prop) (w : World) (hn : n ≤ 4194304) (hV : RdL w S A n arg) (hm : ∀ i, i < n → (arg i).val.many ≤ 4194304) :
    Calls Try.prog 40 #[.slice A n c, .func (.func 41) #[] #[]] w (LEachPost n arg w) := by
  obtain ⟨i0, hi, jz0, jz1, jz2⟩ := info_parts infoL
  have HV := Lib.hid hV
  have HM := Lib.hid hm
  have HE := Lib.hid lcopy_enters
  clear hV hm
  go_enter Try.func40, Try.ntmps40
  go_wp2_with fail
  go_loopw [5, 7, 10] (fun v _ i wr => ∃ (q : Nat) (C : Nat → List Value), q ≤ n ∧ i = .int .i64 q ∧ wr.ownsRow w.heap.size 44 9 v q (flatC C q) ∧ (∀ i, (C i).length = 9) ∧ (∀ i, i < q → (arg i).isL wr (fun b => w.heap.size ≤ b ∧ some b ≠ v.ownBlock) (C i)) ∧ Below w.heap.size w wr) (fun _ _ i _ => n - (intOf i).toNat)
  case atStart => exact ⟨0, fun _ => List.replicate 9 undef, Nat.zero_le _, rfl, World.ownsRow_nil _ _ _ _, fun _ => by simp, fun i hi => by omega, Below.refl _ _⟩
  case round =>
    obtain ⟨q, C, hq, rfl, hown, hCl, hCv, hB⟩ := hrel
    by_cases hlt : q < n
    · obtain ⟨b, off, rfl, hb, hSb, D, hD⟩ := HV.out (by omega)
      obtain ⟨hDq, hcell⟩ := hD q hlt
      have hDr := isL_frame (w' := wr) (S' := S) hB.size (fun b hs hlt => ⟨hs, hB.block b hlt⟩) hDq
      have hDr' := hDr
      obtain ⟨k', m', s', A', n', c', hCq, _⟩ := hDr'
      obtain ⟨lq, hlq⟩ : ∃ x, arg q = x := ⟨_, rfl⟩
      have HMq := Lib.hid (HM.out q hlt)
      rw [hlq] at hCq hDr HMq
      have HLQ := Lib.hid hlq
      obtain ⟨k, f, t, num, s, val⟩ := lq
      dsimp only at hCq HMq
      rw [hCq] at hcell hDr
      have c0 : wr.cell? ⟨b, off + q * 9, none⟩ = some (.int .i64 k) := (hB.cell (p := ⟨b, _, none⟩) hb).trans (hcell 0 _ rfl)
      have c1 : wr.cell? ⟨b, off + q * 9 + 1, none⟩ = some (.int .i64 f) := (hB.cell (p := ⟨b, _, none⟩) hb).trans (hcell 1 _ rfl)
      have c2 : wr.cell? ⟨b, off + q * 9 + 2, none⟩ = some (.int .i64 t) := (hB.cell (p := ⟨b, _, none⟩) hb).trans (hcell 2 _ rfl)
      have c3 : wr.cell? ⟨b, off + q * 9 + 3, none⟩ = some (.int .i64 num) := (hB.cell (p := ⟨b, _, none⟩) hb).trans (hcell 3 _ rfl)
      have c4 : wr.cell? ⟨b, off + q * 9 + 4, none⟩ = some (.string s) := (hB.cell (p := ⟨b, _, none⟩) hb).trans (hcell 4 _ rfl)
      have c5 : wr.cell? ⟨b, off + q * 9 + 5, none⟩ = some (.int .i64 k') := (hB.cell (p := ⟨b, _, none⟩) hb).trans (hcell 5 _ rfl)
      have c6 : wr.cell? ⟨b, off + q * 9 + 6, none⟩ = some (.int .i64 m') := (hB.cell (p := ⟨b, _, none⟩) hb).trans (hcell 6 _ rfl)
      have c7 : wr.cell? ⟨b, off + q * 9 + 7, none⟩ = some (.string s') := (hB.cell (p := ⟨b, _, none⟩) hb).trans (hcell 7 _ rfl)
      have c8 : wr.cell? ⟨b, off + q * 9 + 8, none⟩ = some (.slice A' n' c') := (hB.cell (p := ⟨b, _, none⟩) hb).trans (hcell 8 _ rfl)
      have hBs := hB.size
      have HO := Lib.hid hown
      have HCL := Lib.hid hCl
      have HCV := Lib.hid hCv
      have HDR := Lib.hid hDr
      have hen := HE.out #[.agg #[.int .i64 k, .int .i64 f, .int .i64 t, .int .i64 num, .string s, .int .i64 k', .int .i64 m', .string s', .slice A' n' c']]
      clear hown hCl hCv hDr hD hDq hcell hCq hlq
      go_wp2_with fail
      refine (lcopy_any _ _ S _ (isL_below HDR.out ((Below.refl _ _).alloc (Nat.le_refl _) _)) HMq.out).mono ?_
      rintro e w1 ⟨cs', rfl, hV1, hb1⟩
      have hV1' := hV1
      obtain ⟨k3, m3, s3, A3, n3, c3', rfl, _⟩ := hV1'
      dsimp only at hV1 ⊢
      have hO1 := own_below ((HO.out).alloc (.cells #[.int .i64 k, .int .i64 f, .int .i64 t, .int .i64 num, .string s, .int .i64 k', .int .i64 m', .string s', .slice A' n' c'] 44)) hb1
      have HO1 := Lib.hid hO1
      have HV1 := Lib.hid hV1
      have HB1 := Lib.hid hb1
      have hz1 : w.heap.size ≤ w1.heap.size := by have := hb1.size; simp at this; omega
      have hlt5 := Lib.hid (fun k hk => (HO.out.lt k hk).2)
      clear hO1 hV1 hb1 hen c0 c1 c2 c3 c4 c5 c6 c7 c8
      go_wp2_with (at_builtin; refine wpList_append_own_at _ rfl _ _ 36 rfl w.heap.size 44 i0 _ 9 104 Try.underlying36 hi jz0 jz1 jz2 rfl (by omega) u5 q (flatC C q) rfl (HO1.out.alloc _) ⟨w1.heap.size, 0, none⟩ 1 1 [.int .i64 k, .int .i64 f, .int .i64 t, .int .i64 num, .string s, .int .i64 k3, .int .i64 m3, .string s3, .slice A3 n3 c3'] rfl rfl (cell_nine_new _ _ _ _ _ _ _ _ _ _ _) (isL_one HV1.out) (by unfold maxLen; omega) (by omega) (by simp; omega) ?_; intro v2 w2 hown2 hgrow2 _ hat2; rw [flatC_snoc] at hown2; have HO2 := Lib.hid hown2; have HG2 := Lib.hid hgrow2; have HA2 := Lib.hid hat2; clear hown2 hgrow2 hat2)
      go_roundw
      case rel =>
        refine ⟨q + 1, updC C q [.int .i64 k, .int .i64 f, .int .i64 t, .int .i64 num, .string s, .int .i64 k3, .int .i64 m3, .string s3, .slice A3 n3 c3'], by omega, by go_num, HO2.out, fun i => ?_, fun i hi => ?_, ?_⟩
        · unfold updC; split
          · rfl
          · exact HCL.out i
        · by_cases e : i = q
          · subst e
            simp only [updC, if_true]
            rw [HLQ.out]
            exact leach_new hBs hlt5.out HB1.out HG2.out HA2.out HV1.out
          · simp only [updC, e, if_false]
            exact leach_step HB1.out HG2.out HA2.out (HCV.out i (by omega))
        · exact (((hB.alloc hBs _).trans (HB1.out.mono (by simp; omega))).alloc hz1 _).grown HG2.out (by simp; omega) (fun k hk => (HO.out.lt k hk).1)
      case measure => simp [intOf]; omega
    · obtain rfl : q = n := by omega
      go_wp2_with fail
      go_ret
      exact ⟨_, C, rfl, hown, hCl, hCv, hB⟩
end Go.Proofs.Ytjalgnpbdcefdaa
