/- Rows of the call's own; link.copyOf. -/
import Derived.Test.YtcjkibjaajbfmaaLinkA
import Derived.Deep.RegionHeld3
import Derived.Deep.AppendLies
namespace Go.Proofs.Ytcjkibjaajbfmaa
open Go.RowKit
set_option linter.unusedVariables false
theorem infoRow : (Try.prog.info? 68).map (fun i => (i.zero, i.size, i.bytes)) = some (some (.agg #[.int .i64 0, .slice none 0 0, .slice none 0 0]), 3, 56) := by kernel_rfl
/-- the two inner slices of each row, by a side -/
def iv (vw vl : Nat → Value) (k : Nat) (s : Bool) : Value := if s then vw k else vl k
def il (R : Nat → LR) (k : Nat) (s : Bool) : List Int := if s then (R k).ws else (R k).ls
structure OwnL (w : World) (base : Nat) (v : Value) (n : Nat) (R : Nat → LR) (vw vl : Nat → Value) : Prop where
  row : w.ownsRow base 68 3 v n (flatC (rwC R vw vl) n)
  each : ∀ k, k < n → ∀ s, OwnI w base (iv vw vl k s) (il R k s)
  apart : ∀ i j, i < n → j < n → ∀ s t, ¬ (i = j ∧ s = t) → ∀ k, (iv vw vl i s).ownBlock = some k → (iv vw vl j t).ownBlock ≠ some k
  outer : ∀ i, i < n → ∀ s k, (iv vw vl i s).ownBlock = some k → v.ownBlock ≠ some k
theorem OwnL.grown {w w' : World} {base : Nat} {v : Value} {n : Nat} {R : Nat → LR} {vw vl : Nat → Value} {row : Option Nat} (h : OwnL w base v n R vw vl) (hg : w.grownBy w' row) (h1 : ∀ k, v.ownBlock = some k → row ≠ some k)
    (h2 : ∀ i, i < n → ∀ s k, (iv vw vl i s).ownBlock = some k → row ≠ some k) : OwnL w' base v n R vw vl :=
  ⟨own_grown h.row hg h1, fun i hi s => (h.each i hi s).grown hg (h2 i hi s), h.apart, h.outer⟩
theorem OwnL.below {w w' : World} {base : Nat} {v : Value} {n : Nat} {R : Nat → LR} {vw vl : Nat → Value} (h : OwnL w base v n R vw vl) (hb : Below w.heap.size w w') : OwnL w' base v n R vw vl :=
  h.grown (grown_below (g := none) hb) (fun k _ e => by cases e) (fun i _ s k _ e => by cases e)
theorem OwnL.mono {w : World} {base base' : Nat} {v : Value} {n : Nat} {R : Nat → LR} {vw vl : Nat → Value} (h : OwnL w base v n R vw vl) (hb : base' ≤ base) : OwnL w base' v n R vw vl :=
  ⟨own_mono h.row hb, fun i hi s => (h.each i hi s).mono hb, h.apart, h.outer⟩
theorem OwnL.nil (w : World) (base : Nat) (R : Nat → LR) (vw vl : Nat → Value) : OwnL w base (.slice none 0 0) 0 R vw vl := ⟨World.ownsRow_nil _ _ _ _, fun i hi => by omega, fun i j hi => by omega, fun i hi => by omega⟩
theorem OwnL.rd {w : World} {base c : Nat} {A : Option Addr} {n : Nat} {R : Nat → LR} {vw vl : Nat → Value} (h : OwnL w base (.slice A n c) n R vw vl) : RdL w A n R vw vl :=
  ⟨Rd.of_own (rwC_len _ _ _) h.row, fun k hk => ⟨Sl.of_own (h.each k hk true), Sl.of_own (h.each k hk false)⟩⟩
def updV (vs : Nat → Value) (i : Nat) (x : Value) : Nat → Value := fun k => if k = i then x else vs k
/-- one row more -/
theorem OwnL.snoc {wr w1 w2 : World} {base : Nat} {v v' v1 v2 : Value} {n : Nat} {R : Nat → LR} {vw vl : Nat → Value} {o : Obj} (h : OwnL wr base v n R vw vl) (hbase : base ≤ wr.heap.size) (hb1 : Below wr.heap.size wr w1)
    (h1 : OwnI w1 wr.heap.size v1 (R n).ws) (h2 : OwnI w1 wr.heap.size v2 (R n).ls) (hap : ∀ k, v1.ownBlock = some k → v2.ownBlock ≠ some k) (hg : (w1.alloc o).grownBy w2 v.ownBlock)
    (hat : v'.ownBlock = v.ownBlock ∨ v'.ownBlock = some (w1.heap.size + 1)) (hown : w2.ownsRow base 68 3 v' (n + 1) (flatC (rwC R vw vl) n ++ [.int .i64 (R n).ref, v1, v2])) : OwnL w2 base v' (n + 1) R (updV vw n v1) (updV vl n v2) := by
  have hlt : ∀ i, i < n → ∀ s k, (iv vw vl i s).ownBlock = some k → k < wr.heap.size := fun i hi s k hk => ((h.each i hi s).blk k hk).2
  have hvlt : ∀ k, v.ownBlock = some k → k < wr.heap.size := fun k hk => (h.row.lt k hk).2
  have hs1 := hb1.size
  have g2 : w1.grownBy w2 v.ownBlock := grown_step (World.grownBy_alloc w1 o _) hg (.inl rfl)
  have hold : ∀ i, i < n → ∀ s, iv (updV vw n v1) (updV vl n v2) i s = iv vw vl i s := fun i hi s => by
    unfold iv updV
    simp only [if_neg (show ¬ i = n by omega)]
  have hnew : ∀ s, iv (updV vw n v1) (updV vl n v2) n s = if s then v1 else v2 := fun s => by
    unfold iv updV
    simp
  have hn12 : ∀ (s : Bool) k, (if s then v1 else v2).ownBlock = some k → wr.heap.size ≤ k ∧ k < w1.heap.size := fun s k hk => by
    cases s
    · exact h2.blk k hk
    · exact h1.blk k hk
  refine ⟨?_, fun i hi s => ?_, fun i j hi hj s t hst k hk => ?_, fun i hi s k hk => ?_⟩
  · have e : flatC (rwC R vw vl) n ++ [.int .i64 (R n).ref, v1, v2] = flatC (rwC R (updV vw n v1) (updV vl n v2)) (n + 1) := by
      rw [flatC]
      congr 1
      · exact flatC_congr fun k hk => by unfold rwC updV; simp only [if_neg (show ¬ k = n by omega)]
      · simp [rwC, updV]
    rw [← e]
    exact hown
  · by_cases e : i = n
    · subst e
      rw [hnew]
      have hsd : OwnI w1 wr.heap.size (if s then v1 else v2) (il R i s) := by
        cases s
        · exact h2
        · exact h1
      exact (hsd.mono hbase).grown g2 (fun k hk e => by have := (hn12 s k hk).1; have := hvlt k e; omega)
    · rw [hold i (by omega)]
      exact ((h.each i (by omega) s).below hb1).grown g2 (fun k hk => h.outer i (by omega) s k hk)
  · by_cases e : i = n
    · subst e
      rw [hnew] at hk
      by_cases e2 : j = i
      · subst e2
        rw [hnew]
        cases s <;> cases t
        · exact absurd ⟨rfl, rfl⟩ hst
        · exact fun e => hap k e hk
        · exact hap k hk
        · exact absurd ⟨rfl, rfl⟩ hst
      · rw [hold j (by omega)]
        intro e3
        have := (hn12 s k hk).1
        have := hlt j (by omega) t k e3
        omega
    · rw [hold i (by omega)] at hk
      by_cases e2 : j = n
      · subst e2
        rw [hnew]
        intro e3
        have := (hn12 t k e3).1
        have := hlt i (by omega) s k hk
        omega
      · rw [hold j (by omega)]
        exact h.apart i j (by omega) (by omega) s t hst k hk
  · by_cases e : i = n
    · subst e
      rw [hnew] at hk
      have hk1 := hn12 s k hk
      rcases hat with ha | ha
      · rw [ha]; intro e; have := hvlt k e; omega
      · rw [ha]; intro e; injection e with e; omega
    · rw [hold i (by omega)] at hk
      have hk1 := hlt i (by omega) s k hk
      rcases hat with ha | ha
      · rw [ha]; exact h.outer i (by omega) s k hk
      · rw [ha]; intro e; injection e with e; omega
end Go.Proofs.Ytcjkibjaajbfmaa
