/- Boxes of timers and of wards, and new memory between stores of numbers over numbers. -/
import Derived.Test.YtcedogmhmpcfmaaOwnGeRow
namespace Go.Proofs.Ytcedogmhmpcfmaa
open Go.RowKit
set_option linter.unusedVariables false
theorem Ge.trans {base : Nat} {w w1 w2 : World} (H : Ge base w w1) (H2 : Ge base w1 w2) : Ge base w w2 :=
  ⟨H.bel.trans H2.bel, fun b o h => H2.ints b o (H.ints b o h), fun b o v h hn => H2.rest b o v (H.rest b o v h hn) hn⟩
theorem Ge.alloc {base : Nat} {w wr : World} (H : Ge base w wr) (hb : base ≤ wr.heap.size) (o : Obj) : Ge base w (wr.alloc o) :=
  ⟨H.bel.alloc hb o, fun b i h => (H.ints b i h).below ((Below.refl _ _).alloc (Nat.le_refl _) o), fun b i v h hn => by
    have h2 := H.rest b i v h hn
    exact (World.cell?_alloc_lt wr o ⟨b, i, none⟩ (World.block_lt_of_cell? wr _ h2)).trans h2⟩
/-- a box of timers: a number and a slice -/
def TimB (w : World) (b : Nat) (A : Option Addr) (n c : Nat) : Prop := IntAt w b 0 ∧ w.cell? ⟨b, 1, none⟩ = some (.slice A n c)
theorem TimB.below {w w' : World} {b n c : Nat} {A : Option Addr} (h : TimB w b A n c) (hb : Below w.heap.size w w') : TimB w' b A n c :=
  ⟨h.1.below hb, (hb.cell (p := ⟨b, 1, none⟩) (World.block_lt_of_cell? w _ h.2)).trans h.2⟩
theorem TimB.ge {base : Nat} {w w' : World} {b n c : Nat} {A : Option Addr} (h : TimB w b A n c) (H : Ge base w w') : TimB w' b A n c :=
  ⟨H.ints _ _ h.1, H.rest _ _ _ h.2 (fun z e => by cases e)⟩
/-- a box of a ward: three numbers and two slices -/
def WardB (w : World) (b : Nat) (A : Option Addr) (n c : Nat) (B : Option Addr) (m d : Nat) : Prop := IntAt w b 0 ∧ IntAt w b 1 ∧ IntAt w b 2 ∧ w.cell? ⟨b, 3, none⟩ = some (.slice A n c) ∧ w.cell? ⟨b, 4, none⟩ = some (.slice B m d)
theorem WardB.below {w w' : World} {b n c m d : Nat} {A B : Option Addr} (h : WardB w b A n c B m d) (hb : Below w.heap.size w w') : WardB w' b A n c B m d :=
  ⟨h.1.below hb, h.2.1.below hb, h.2.2.1.below hb, (hb.cell (p := ⟨b, 3, none⟩) (World.block_lt_of_cell? w _ h.2.2.2.1)).trans h.2.2.2.1, (hb.cell (p := ⟨b, 4, none⟩) (World.block_lt_of_cell? w _ h.2.2.2.2)).trans h.2.2.2.2⟩
theorem WardB.ge {base : Nat} {w w' : World} {b n c m d : Nat} {A B : Option Addr} (h : WardB w b A n c B m d) (H : Ge base w w') : WardB w' b A n c B m d :=
  ⟨H.ints _ _ h.1, H.ints _ _ h.2.1, H.ints _ _ h.2.2.1, H.rest _ _ _ h.2.2.2.1 (fun z e => by cases e), H.rest _ _ _ h.2.2.2.2 (fun z e => by cases e)⟩
theorem idxR (A0 A1 A2 : Option Addr) (n0 n1 n2 c0 c1 c2 : Nat) (sv : Nat → Value) (h0 : sv 0 = .slice A0 n0 c0) (h1 : sv 1 = .slice A1 n1 c1) (h2 : sv 2 = .slice A2 n2 c2) {k : Nat} (hk : k < 3) : ∀ W : World, (Instr.index 74 (.agg #[.slice A0 n0 c0, .slice A1 n1 c1, .slice A2 n2 c2]) (.int .i64 (k : Int))).run Try.prog W = .ok (sv k) W := by
  have hkk : k = 0 ∨ k = 1 ∨ k = 2 := by omega
  rcases hkk with rfl | rfl | rfl
  · intro W; rw [h0]; kernel_rfl
  · intro W; rw [h1]; kernel_rfl
  · intro W; rw [h2]; kernel_rfl
theorem idxS (A0 A1 : Option Addr) (n0 n1 c0 c1 : Nat) (sv : Nat → Value) (h0 : sv 0 = .slice A0 n0 c0) (h1 : sv 1 = .slice A1 n1 c1) {k : Nat} (hk : k < 2) : ∀ W : World, (Instr.index 78 (.agg #[.slice A0 n0 c0, .slice A1 n1 c1]) (.int .i64 (k : Int))).run Try.prog W = .ok (sv k) W := by
  have hkk : k = 0 ∨ k = 1 := by omega
  rcases hkk with rfl | rfl
  · intro W; rw [h0]; kernel_rfl
  · intro W; rw [h1]; kernel_rfl
theorem idxM (A0 A1 : Option Addr) (n0 n1 c0 c1 : Nat) (sv : Nat → Value) (h0 : sv 0 = .slice A0 n0 c0) (h1 : sv 1 = .slice A1 n1 c1) {k : Nat} (hk : k < 2) : ∀ W : World, (Instr.index 79 (.agg #[.slice A0 n0 c0, .slice A1 n1 c1]) (.int .i64 (k : Int))).run Try.prog W = .ok (sv k) W := by
  have hkk : k = 0 ∨ k = 1 := by omega
  rcases hkk with rfl | rfl
  · intro W; rw [h0]; kernel_rfl
  · intro W; rw [h1]; kernel_rfl
theorem idxT (z0 z1 : Int) (A0 A1 : Option Addr) (n0 n1 c0 c1 : Nat) (zv : Nat → Int) (Av : Nat → Option Addr) (nv cv : Nat → Nat) (h0 : zv 0 = z0 ∧ Av 0 = A0 ∧ nv 0 = n0 ∧ cv 0 = c0) (h1 : zv 1 = z1 ∧ Av 1 = A1 ∧ nv 1 = n1 ∧ cv 1 = c1) {k : Nat} (hk : k < 2) : ∀ W : World, (Instr.index 77 (.agg #[.int .i64 z0, .slice A0 n0 c0, .int .i64 z1, .slice A1 n1 c1]) (.int .i64 (k : Int))).run Try.prog W = .ok (.agg #[.int .i64 (zv k), .slice (Av k) (nv k) (cv k)]) W := by
  have hkk : k = 0 ∨ k = 1 := by omega
  rcases hkk with rfl | rfl
  · intro W; obtain ⟨rfl, rfl, rfl, rfl⟩ := h0; kernel_rfl
  · intro W; obtain ⟨rfl, rfl, rfl, rfl⟩ := h1; kernel_rfl
theorem idxW (x0 y0 z0 x1 y1 z1 : Int) (A0 A1 B0 B1 : Option Addr) (n0 n1 c0 c1 m0 m1 d0 d1 : Nat) (xv yv zv : Nat → Int) (Av Bv : Nat → Option Addr) (nv cv mv dv : Nat → Nat) (h0 : xv 0 = x0 ∧ yv 0 = y0 ∧ zv 0 = z0 ∧ Av 0 = A0 ∧ nv 0 = n0 ∧ cv 0 = c0 ∧ Bv 0 = B0 ∧ mv 0 = m0 ∧ dv 0 = d0) (h1 : xv 1 = x1 ∧ yv 1 = y1 ∧ zv 1 = z1 ∧ Av 1 = A1 ∧ nv 1 = n1 ∧ cv 1 = c1 ∧ Bv 1 = B1 ∧ mv 1 = m1 ∧ dv 1 = d1) {k : Nat} (hk : k < 2) : ∀ W : World, (Instr.index 80 (.agg #[.int .i64 x0, .int .i64 y0, .int .i64 z0, .slice A0 n0 c0, .slice B0 m0 d0, .int .i64 x1, .int .i64 y1, .int .i64 z1, .slice A1 n1 c1, .slice B1 m1 d1]) (.int .i64 (k : Int))).run Try.prog W = .ok (.agg #[.int .i64 (xv k), .int .i64 (yv k), .int .i64 (zv k), .slice (Av k) (nv k) (cv k), .slice (Bv k) (mv k) (dv k)]) W := by
  have hkk : k = 0 ∨ k = 1 := by omega
  rcases hkk with rfl | rfl
  · intro W; obtain ⟨rfl, rfl, rfl, rfl, rfl, rfl, rfl, rfl, rfl⟩ := h0; kernel_rfl
  · intro W; obtain ⟨rfl, rfl, rfl, rfl, rfl, rfl, rfl, rfl, rfl⟩ := h1; kernel_rfl
end Go.Proofs.Ytcedogmhmpcfmaa
