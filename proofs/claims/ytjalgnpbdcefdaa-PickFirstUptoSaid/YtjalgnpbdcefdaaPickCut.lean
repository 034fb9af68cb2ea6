/- PickFirst: the patterns asked for their depth; letters cut; the arguments opened. -/
import Derived.Test.YtjalgnpbdcefdaaPickCat
import Derived.Test.YtjalgnpbdcefdaaPickFitsWalk
namespace Go.Proofs.Ytjalgnpbdcefdaa
open Go.RowKit Go.ChangeShapes Go.WideShapes
set_option linter.unusedVariables false
set_option maxHeartbeats 400000 in
theorem ixP_any (I : World → Prop) (A : Option Addr) (b off n c f : Nat) (cp : Array Value) (g0 g1 g2 g3 : Nat → Value) (p : Nat → Bool) (w : World) (hn : n ≤ 9223372036854775807)
    (hA : 0 < n → A = some ⟨b, off, none⟩) (he : Enters Try.prog f)
    (hc : ∀ W, I W → ∀ k, k < n → W.cell? ⟨b, off + k * 4, none⟩ = some (g0 k) ∧ W.cell? ⟨b, off + k * 4 + 1, none⟩ = some (g1 k) ∧ W.cell? ⟨b, off + k * 4 + 2, none⟩ = some (g2 k) ∧ W.cell? ⟨b, off + k * 4 + 3, none⟩ = some (g3 k))
    (hf : ∀ W, I W → ∀ k, k < n → Calls Try.prog f (#[.agg #[g0 k, g1 k, g2 k, g3 k]] ++ cp) W fun e W' => e = .returned (.bool (p k)) ∧ I W') (hw : I w) :
    Calls Try.prog 45 #[.slice A n c, .func (.func f) #[] cp] w fun e w' => e = .returned (.int .i64 (ixOf p n)) ∧ I w' := by
  have HC := Lib.hid hc
  have HF := Lib.hid hf
  have HA := Lib.hid hA
  have HE := Lib.hid he
  clear hc hf hA he
  go_enter Try.func45, Try.ntmps45
  go_wp2_with fail
  go_loopw [5, 4, 8] (fun _ _ i wr => ∃ k : Nat, k ≤ n ∧ i = .int .i64 k ∧ (∀ j, j < k → p j = false) ∧ I wr) (fun _ _ i _ => n - (intOf i).toNat)
  case atStart => exact ⟨0, Nat.zero_le _, rfl, fun j hj => by omega, hw⟩
  case round =>
    obtain ⟨k, hk, rfl, hlow, hI⟩ := hrel
    have HL := Lib.hid hlow
    clear hlow
    by_cases hlt : k < n
    · obtain rfl := HA.out (by omega)
      obtain ⟨hc0, hc1, hc2, hc3⟩ := HC.out wr hI k hlt
      have hen := HE.out (#[.agg #[g0 k, g1 k, g2 k, g3 k]] ++ cp) wr
      go_wp2_with fail
      refine (HF.out wr hI k hlt).mono ?_
      rintro e W' ⟨rfl, hI'⟩
      by_cases hp : p k = true
      · clear hc0 hc1 hc2 hc3 hen
        go_wp2_with fail
        go_ret
        exact ⟨ret_int (ixOf_found hlt hp HL.out).symm, hI'⟩
      · have hp' : p k = false := by simpa using hp
        clear hc0 hc1 hc2 hc3 hen hp
        go_wp2_with fail
        go_roundw
        case rel =>
          refine ⟨k + 1, by omega, by go_num, fun j hj => ?_, hI'⟩
          by_cases e : j = k
          · rw [e]; exact hp'
          · exact HL.out j (by omega)
        case measure => simp [intOf]; omega
    · go_wp2_with fail
      go_ret
      exact ⟨ret_int (ixOf_none fun j hj => HL.out j (by omega)).symm, hI⟩

set_option maxHeartbeats 400000 in
theorem cfP_any (I : World → Prop) (A : Option Addr) (b off n c f : Nat) (cp : Array Value) (g0 g1 g2 g3 : Nat → Value) (p : Nat → Bool) (w : World) (hn : n ≤ 9223372036854775807)
    (hA : 0 < n → A = some ⟨b, off, none⟩) (he : Enters Try.prog f)
    (hc : ∀ W, I W → ∀ k, k < n → W.cell? ⟨b, off + k * 4, none⟩ = some (g0 k) ∧ W.cell? ⟨b, off + k * 4 + 1, none⟩ = some (g1 k) ∧ W.cell? ⟨b, off + k * 4 + 2, none⟩ = some (g2 k) ∧ W.cell? ⟨b, off + k * 4 + 3, none⟩ = some (g3 k))
    (hf : ∀ W, I W → ∀ k, k < n → Calls Try.prog f (#[.agg #[g0 k, g1 k, g2 k, g3 k]] ++ cp) W fun e W' => e = .returned (.bool (p k)) ∧ I W') (hw : I w) :
    Calls Try.prog 26 #[.slice A n c, .func (.func f) #[] cp] w fun e w' => e = .returned (.bool (anyOf p n)) ∧ I w' := by
  have H := Lib.hid (ixP_any I A b off n c f cp g0 g1 g2 g3 p w hn hA he hc hf hw)
  clear hc hf hA he hw
  go_enter Try.func26, Try.ntmps26
  go_wp2_with fail
  refine H.out.mono ?_
  rintro e W' ⟨rfl, hI'⟩
  go_wp2_with fail
  go_ret
  exact ⟨rfl, hI'⟩

theorem deepPat_enters : Enters Try.prog 8 := fun _ _ => by kernel_rfl
theorem isV_ex {w : World} {S : Nat → Prop} {t : VT} {cs : List Value} (h : t.isV w S cs) : ∃ q : (Int × Int × ByteArray) × (Option Addr × Nat × Nat), cs = [.int .i64 q.1.1, .int .i64 q.1.2.1, .string q.1.2.2, .slice q.2.1 q.2.2.1 q.2.2.2] := by
  obtain ⟨k, m, s, A, n, c, h⟩ := isV_cells h
  exact ⟨((k, m, s), (A, n, c)), h⟩
/-- whether some pattern is too deep -/
theorem deeps_any (n c : Nat) (A : Option Addr) (l : Nat → VT) (S : Nat → Prop) (w : World) (hn : n ≤ 9223372036854775807) (hR : RdV w S A n l) (hm : ∀ i, i < n → (l i).many ≤ 4194304) :
    Calls Try.prog 26 #[.slice A n c, .func (.func 8) #[] #[]] w fun e w' => e = .returned (.bool (anyOf (fun i => deepB (l i)) n)) ∧ Below w.heap.size w w' := by
  by_cases h0 : 0 < n
  · obtain ⟨b, off, hA, hb, hSb, C, hC⟩ := hR h0
    have hq : ∀ i, ∃ q : (Int × Int × ByteArray) × (Option Addr × Nat × Nat), i < n → C i = [.int .i64 q.1.1, .int .i64 q.1.2.1, .string q.1.2.2, .slice q.2.1 q.2.2.1 q.2.2.2] := fun i => by
      by_cases hi : i < n
      · obtain ⟨q, hq⟩ := isV_ex (hC i hi).1
        exact ⟨q, fun _ => hq⟩
      · exact ⟨((0, 0, ⟨#[]⟩), (none, 0, 0)), fun h => absurd h hi⟩
    obtain ⟨Q, hQ⟩ := Classical.axiomOfChoice hq
    refine cfP_any (fun W => Below w.heap.size w W) A b off n c 8 #[] (fun i => .int .i64 (Q i).1.1) (fun i => .int .i64 (Q i).1.2.1) (fun i => .string (Q i).1.2.2) (fun i => .slice (Q i).2.1 (Q i).2.2.1 (Q i).2.2.2) (fun i => deepB (l i)) w hn (fun _ => hA) deepPat_enters (fun W hW k hk => ?_) (fun W hW k hk => ?_) (Below.refl _ _)
    · have hcell : ∀ o, W.cell? ⟨b, o, none⟩ = w.cell? ⟨b, o, none⟩ := fun o => hW.cell (p := ⟨b, o, none⟩) hb
      simp only [hcell]
      have hk' := (hC k hk).2
      rw [hQ k hk] at hk'
      exact ⟨hk' 0 _ rfl, hk' 1 _ rfl, hk' 2 _ rfl, hk' 3 _ rfl⟩
    · have h1 := isV_frame (w' := W) (S' := S) hW.size (fun b hs hlt => ⟨hs, hW.block b hlt⟩) (hC k hk).1
      rw [hQ k hk] at h1
      exact (deepPat_any (l k) _ S W h1 (hm k hk)).mono fun e W' ⟨he, hb⟩ => ⟨he, hW.trans (hb.mono hW.size)⟩
  · refine cfP_any (fun W => Below w.heap.size w W) A 0 0 n c 8 #[] (fun _ => undef) (fun _ => undef) (fun _ => undef) (fun _ => undef) (fun i => deepB (l i)) w hn (fun h => absurd h h0) deepPat_enters (fun W hW k hk => by omega) (fun W hW k hk => by omega) (Below.refl _ _)
theorem sizeL9 (w : World) : (sizeOf (Try.prog.elem 36)).run Try.prog w = .ok 9 w := by kernel_rfl
theorem elemL9 : Try.prog.underlying 36 = some (.slice (Try.prog.elem 36)) := by kernel_rfl
theorem RdL.congr {w : World} {S : Nat → Prop} {A : Option Addr} {n : Nat} {f g : Nat → LT} (h : RdL w S A n f) (hfg : ∀ i, i < n → f i = g i) : RdL w S A n g := fun h0 => by
  obtain ⟨b, off, hA, hb, hs, C, hC⟩ := h h0
  exact ⟨b, off, hA, hb, hs, C, fun i hi => by rw [← hfg i hi]; exact hC i hi⟩
/-- the letters behind a place -/
theorem cutL_from (b off n c q r d : Nat) (hr : q + 1 + r = n) (hd : q + 1 + d = c) (hc : n ≤ c) : ∃ XA : Addr, (∀ w, (Instr.sliceAt 36 (.slice (some ⟨b, off, none⟩) n c) (some (.int .i64 ((q : Int) + 1))) none none).run Try.prog w = .ok (.slice (some XA) r d) w) ∧
    ∀ (w : World) (S : Nat → Prop) (arg : Nat → LT), RdL w S (some ⟨b, off, none⟩) n arg → RdL w S (some XA) r (fun j => arg (q + 1 + j)) := by
  refine ⟨if c = q + 1 then ⟨b, off, none⟩ else ⟨b, off + (q + 1) * 9, none⟩, fun w => ?_, fun w S arg hR h0 => ?_⟩
  · rw [run_sliceAt_slice _ _ _ _ _ _ elemL9, show (q : Int) + 1 = ((q + 1 : Nat) : Int) by push_cast; rfl, run_slice_l _ _ _ _ _ elemL9 _ _ (by omega) (by omega), sizeL9]
    simp only [Result.andThen, sliced, Int.toNat_natCast, Option.map, Go.WideShapes.add_plain]
    rw [show n - (q + 1) = r by omega, show c - (q + 1) = d by omega]
    by_cases e : c = q + 1
    · simp [e]
    · simp [e]
  · rw [if_neg (by omega)]
    obtain ⟨b1, o1, hA, hb1, hs1, C, hC⟩ := hR (by omega)
    injection hA with hA
    injection hA with e1 e2
    subst e1 e2
    refine ⟨b, off + (q + 1) * 9, rfl, hb1, hs1, fun j => C (q + 1 + j), fun j hj => ⟨(hC (q + 1 + j) (by omega)).1, fun t u hu => ?_⟩⟩
    have := (hC (q + 1 + j) (by omega)).2 t u hu
    rw [show off + (q + 1 + j) * 9 + t = off + (q + 1) * 9 + j * 9 + t by omega] at this
    exact this
theorem RdL.take {w : World} {S : Nat → Prop} {A : Option Addr} {n k : Nat} {f : Nat → LT} (h : RdL w S A n f) (hk : k ≤ n) : RdL w S A k f := fun h0 => by
  obtain ⟨b, off, hA, hb, hs, C, hC⟩ := h (by omega)
  exact ⟨b, off, hA, hb, hs, C, fun i hi => hC i (by omega)⟩
set_option maxRecDepth 100000 in
theorem open_pats {H : Type} {enc : TypeId × Value → H} {W : World} {base : Nat} {v : Value} {d : DataW H} {p : List MemPlace} (k0 : Value.okWide Try.prog W .any base 22 v) (h0 : DataW.Trod enc Try.prog W 0 (fun _ => true) true 22 v d p) :
    ∃ A n c l, v = .slice A n c ∧ n ≤ c ∧ c ≤ 9223372036854775807 ∧ (A = none → n = 0) ∧ RdV W (fun _ => True) A n l ∧ (∀ i, i < n → (l i).many ≤ Rows.uptoBulk d) ∧ n ≤ Rows.uptoBulk d := by
  obtain ⟨a0, l0, cp0, rfl⟩ := okWide_slice Try.underlying22 k0
  obtain ⟨fuel, hf⟩ := h0
  obtain ⟨A, n, c, C, E, hcs, hnc, hcm, hA, hR, hlen, hel, hbulk⟩ := open_rows_bulk (sz := 4) Try.underlying22 (by kernel_rfl) (by omega) hf
  have hv : Value.slice a0 l0 cp0 = .slice A n c := by simpa [Value.cells] using hcs
  have hch : ∀ i, ∃ t : VT, i < n → t.isV W (fun _ => True) (C i) ∧ t.many ≤ Rows.uptoBulk (E i) := fun i => by
    by_cases hi : i < n
    · obtain ⟨m, pl, hm, ht⟩ := hel i hi
      obtain ⟨t, h5, h6⟩ := open_pat m _ _ ht
      exact ⟨t, fun _ => ⟨h5, h6⟩⟩
    · exact ⟨.none, fun h => absurd h hi⟩
  obtain ⟨F, hF⟩ := Classical.axiomOfChoice hch
  have hb1 : n ≤ sumTo (fun i => Rows.uptoBulk (E i)) n := len_sumTo fun i _ => bulk_one _
  have hbk : sumTo (fun i => Rows.uptoBulk (E i)) n + 1 ≤ Rows.uptoBulk d := hbulk
  refine ⟨A, n, c, F, hv, hnc, hcm, hA, fun h0 => ?_, fun i hi => ?_, by omega⟩
  · obtain ⟨b, off, hAb, hb, hcell⟩ := hR h0
    exact ⟨b, off, hAb, hb, trivial, C, fun i hi => ⟨(hF i hi).1, hcell i hi⟩⟩
  · have h1 := (hF i hi).2
    have h2 : Rows.uptoBulk (E i) ≤ sumTo (fun i => Rows.uptoBulk (E i)) n := le_sumTo (g := fun i => Rows.uptoBulk (E i)) hi
    omega
end Go.Proofs.Ytjalgnpbdcefdaa
