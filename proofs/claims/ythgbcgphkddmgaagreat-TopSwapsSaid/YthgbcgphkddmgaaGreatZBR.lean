/- cluster.New. -/
import Derived.Test.YthgbcgphkddmgaaGreatZBM
import Derived.Deep.RegionLaw
namespace Go.Proofs.YthgbcgphkddmgaaGreat.Cx
open Go.RowKit Go.Maps
set_option linter.unusedVariables false
set_option linter.unusedSimpArgs false
def blW (s : Nat) : CBk → Nat
  | .Me => s
  | .Mw => s + 1
  | .Mt => s + 1 + 1
  | .Mo => s + 1 + 1 + 1
  | .Mh => s + 1 + 1 + 1 + 1
  | _ => s + 1 + 1 + 1 + 1 + 1
def CNewP (X0 : Nat → Prop) (b0 N fuel : Nat) (w : World) (e : Ending) (w' : World) : Prop :=
  ∃ bl pn, e = .returned (.tuple #[.pointer (some ⟨bl .P, 0, none⟩), .int .i64 0]) ∧ CqAt w' (fun k => X0 k ∨ w.heap.size ≤ k ∧ k < w'.heap.size) (fun k => w.heap.size ≤ k ∧ k < w'.heap.size) b0 0 bl pn 0 (newC N fuel) ∧ Below w.heap.size w w'
set_option maxRecDepth 100000 in
set_option maxHeartbeats 8000000 in
theorem cnew_any (X0 : Nat → Prop) (b0 N fuel : Nat) (w : World) (hX0 : ∀ k, X0 k → k < w.heap.size) (hb0 : b0 ≤ w.heap.size) (h1 : 1 ≤ N) (h8 : N ≤ 8) (hf1 : 1 ≤ fuel) (hf9 : fuel ≤ 10000) : Calls Tryz.prog 7 #[.int .i64 (N : Int), .iface 30 (.agg #[]), .int .i64 (fuel : Int)] w (CNewP X0 b0 N fuel w) := by
  have d1 : decide ((N : Int) < 1) = false := decide_eq_false (by omega)
  have d2 : decide ((8 : Int) < (N : Int)) = false := decide_eq_false (by omega)
  have m1 : ∀ w, (Instr.makeMap 81 none).run Tryz.prog w = .ok (.map (some w.heap.size)) (w.alloc (.map #[] 0)) := fun w => by kernel_rfl
  have m2 : ∀ w, (Instr.makeMap 82 none).run Tryz.prog w = .ok (.map (some w.heap.size)) (w.alloc (.map #[] 0)) := fun w => by kernel_rfl
  have m3 : ∀ w, (Instr.makeMap 83 none).run Tryz.prog w = .ok (.map (some w.heap.size)) (w.alloc (.map #[] 0)) := fun w => by kernel_rfl
  have m4 : ∀ w, (Instr.makeMap 84 none).run Tryz.prog w = .ok (.map (some w.heap.size)) (w.alloc (.map #[] 0)) := fun w => by kernel_rfl
  have HX0 := Lib.hid (And.intro hX0 hb0)
  clear hX0 hb0
  go_enter Tryz.func7, Tryz.ntmps7
  obtain ⟨s, hs⟩ : ∃ s, w.heap.size = s := ⟨_, rfl⟩
  obtain ⟨W0, hW0⟩ : ∃ W0, W0 = (((((w.alloc (.map #[] 0)).alloc (.map #[] 0)).alloc (.map #[] 0)).alloc (.map #[] 0)).alloc (.map #[] 0)).alloc (.cells #[.slice none 0 0, .slice none 0 0, .map (some w.heap.size), .map (some (w.heap.size + 1)), .map (some (w.heap.size + 1 + 1)), .slice none 0 0, .map (some (w.heap.size + 1 + 1 + 1)), .map (some (w.heap.size + 1 + 1 + 1 + 1)), .slice none 0 0] 90) := ⟨_, rfl⟩
  have HB0 := Lib.hid (show Below w.heap.size w W0 by rw [hW0]; exact ((((((Below.refl _ _).alloc (Nat.le_refl _) _).alloc (by simp) _).alloc (by simp; omega) _).alloc (by simp; omega) _).alloc (by simp; omega) _).alloc (by simp; omega) _)
  have HCB := Lib.hid (show NwG W0 s X0 b0 (okI N 0 N) (blW s) 0 fuel (.slice none 0 0) (.slice none 0 0) (fun _ => 0) (fun _ => 0) (fun _ => 0) (fun _ _ => 0) 0 (fun _ _ => none) by
    have hz : W0.heap.size = s + 1 + 1 + 1 + 1 + 1 + 1 := by rw [hW0]; simp [hs]
    have z1 : (w.alloc (.map #[] 0)).heap.size = s + 1 := by simp [hs]
    have z2 : ((w.alloc (.map #[] 0)).alloc (.map #[] 0)).heap.size = s + 1 + 1 := by simp [hs]
    have z3 : (((w.alloc (.map #[] 0)).alloc (.map #[] 0)).alloc (.map #[] 0)).heap.size = s + 1 + 1 + 1 := by simp [hs]
    have z4 : ((((w.alloc (.map #[] 0)).alloc (.map #[] 0)).alloc (.map #[] 0)).alloc (.map #[] 0)).heap.size = s + 1 + 1 + 1 + 1 := by simp [hs]
    have q0 : OwnW W0 s 0 (fun _ _ => none) := by
      rw [hW0, ← hs]
      exact (OwnW.made w).fr (S := fun _ => False) (((((Fr.refl _ _).alloc _).alloc _).alloc _).alloc _ |>.alloc _) (fun h => h)
    have q1 : OwnW W0 (s + 1) 0 (fun _ _ => none) := by
      rw [hW0, ← z1]
      exact (OwnW.made _).fr (S := fun _ => False) ((((Fr.refl _ _).alloc _).alloc _).alloc _ |>.alloc _) (fun h => h)
    have q2 : OwnW W0 (s + 1 + 1) 0 (fun _ _ => none) := by
      rw [hW0, ← z2]
      exact (OwnW.made _).fr (S := fun _ => False) (((Fr.refl _ _).alloc _).alloc _ |>.alloc _) (fun h => h)
    have q3 : OwnM W0 (s + 1 + 1 + 1) 0 (fun _ => none) := by
      rw [hW0, ← z3]
      exact (OwnM.made _).fr (S := fun _ => False) ((Fr.refl _ _).alloc _ |>.alloc _) (fun h => h)
    have q4 : OwnM W0 (s + 1 + 1 + 1 + 1) 0 (fun _ => none) := by
      rw [hW0, ← z4]
      exact (OwnM.made _).fr (S := fun _ => False) ((Fr.refl _ _).alloc _) (fun h => h)
    have hcell : ∀ j u, ([.slice none 0 0, .slice none 0 0, .map (some w.heap.size), .map (some (w.heap.size + 1)), .map (some (w.heap.size + 1 + 1)), .slice none 0 0, .map (some (w.heap.size + 1 + 1 + 1)), .map (some (w.heap.size + 1 + 1 + 1 + 1)), .slice none 0 0] : List Value)[j]? = some u → W0.cell? ⟨s + 1 + 1 + 1 + 1 + 1, j, none⟩ = some u := fun j u hj => by
      rw [hW0]
      have := cell_newL (((((w.alloc (.map #[] 0)).alloc (.map #[] 0)).alloc (.map #[] 0)).alloc (.map #[] 0)).alloc (.map #[] 0)) _ 90 (s + 1 + 1 + 1 + 1 + 1) (by simp [hs]) j u hj
      rw [Addr.add_lit, Nat.zero_add] at this
      exact this
    rw [hs] at hcell
    have hp : ∀ a, okI N 0 N a → a = .P ∨ a = .Me ∨ a = .Mw ∨ a = .Mt ∨ a = .Mo ∨ a = .Mh := fun a ha => by
      cases a <;> first | exact Or.inl rfl | exact Or.inr (Or.inl rfl) | exact Or.inr (Or.inr (Or.inl rfl)) | exact Or.inr (Or.inr (Or.inr (Or.inl rfl))) | exact Or.inr (Or.inr (Or.inr (Or.inr (Or.inl rfl)))) | exact Or.inr (Or.inr (Or.inr (Or.inr (Or.inr rfl)))) | exact absurd ha (fun h => h) | exact absurd ha (Nat.not_lt_zero _) | (exfalso; rcases ha with ha | ha <;> omega)
    refine ⟨⟨by omega, ⟨trivial, trivial, trivial, trivial, trivial, trivial⟩, fun j hj => absurd hj (by omega), fun a b ha hb e => ?_, fun a ha => ?_, fun j hj => absurd hj (by omega), fun j a hj => absurd hj (by omega), fun j l hj => absurd hj (by omega), fun g hg => (by cases hg), fun g hg => (by cases hg), fun g hg => (by cases hg)⟩,
      ⟨fun j hj => absurd hj (by omega), fun j hj => absurd hj (by omega), q1, q2, q3, q4, fun j k hk => ?_, ⟨fun k hk => hs ▸ HX0.out.1 k hk, hs ▸ HX0.out.2⟩⟩, ⟨hcell 0 _ rfl, hcell 1 _ rfl, hcell 2 _ rfl, hcell 3 _ rfl, hcell 4 _ rfl, hcell 5 _ rfl, hcell 6 _ rfl, hcell 7 _ rfl, hcell 8 _ rfl, fun o => ?_⟩, World.ownsRow_nil _ _ _ _, World.ownsRow_nil _ _ _ _, q0, fun x y hx hy => ⟨fun hk => ?_, fun _ => rfl, rfl, rfl⟩⟩
    · rcases hp a ha with rfl | rfl | rfl | rfl | rfl | rfl <;> rcases hp b hb with rfl | rfl | rfl | rfl | rfl | rfl <;> first | rfl | (simp only [blW] at e; omega)
    · rcases hp a ha with rfl | rfl | rfl | rfl | rfl | rfl <;> simp only [blW] <;> omega
    · have : (j + 1 < 0 ∧ k < N ∧ j ≠ k) ∨ (j + 1 = 0 ∧ k < N ∧ j ≠ k) := hk
      omega
    · rw [hW0]; show World.frozen? _ ⟨s + 1 + 1 + 1 + 1 + 1, o, none⟩ = false; simp [go_sem, ← hs]
    · have : (x + 1 < 0 ∧ y < N ∧ x ≠ y) ∨ (x + 1 = 0 ∧ y < N ∧ x ≠ y) := hk
      omega)
  have HW := Lib.hid hW0
  have HS := Lib.hid hs
  clear hW0 hs
  go_wp2_with fail
  rw [← HW.out]
  clear HW
  have hs := HS.out
  rw [hs] at HB0 ⊢
  have hsl : s < W0.heap.size := (HCB.out.a.lt .Me HCB.out.a.pr.2.1).2
  have hP0 : blW s .P = s + 1 + 1 + 1 + 1 + 1 := rfl
  rw [← hP0]
  clear hs hP0
  generalize blW s = bl0 at HCB ⊢
  obtain ⟨p, hp⟩ : ∃ p, bl0 .P = p := ⟨_, rfl⟩
  have HP0 := Lib.hid hp
  rw [hp]
  clear hp
  go_loopw [9] (fun x wr => ∃ (i : Nat) (bl : CBk → Nat) (va vb : Value) (pn lo hi : Nat → Nat) (Pn : Nat → Int → Nat) (nm : Nat) (g : Nat → Nat → Option Value), i ≤ N ∧ x = .int .i64 ((i : Int) + 1) ∧ Hid (bl .P = p) ∧ nm ≤ 10 * i ∧ Hid (NwG wr s X0 b0 (okI N i N) bl i fuel va vb pn lo hi Pn nm g) ∧ Hid (Below s w wr)) (fun x _ => N + 1 - (intOf x).toNat)
  case atStart => exact ⟨0, bl0, _, _, _, _, _, _, _, _, by omega, rfl, HP0, by omega, HCB, HB0⟩
  case round =>
    clear HCB HB0 hsl HP0
    obtain ⟨i, bl, va, vb, pn, lo, hh, Pn, nm, g, hiN, rfl, HP, hnm, HC, HB⟩ := hrel
    by_cases hi : i < N
    · have hd : decide ((i : Int) + 1 ≤ (N : Int)) = true := decide_eq_true (by omega)
      have i1 : (i : Int) + 1 ≤ 8 := by omega
      have HDN := Lib.hid (new_any (fun k => X0 k ∨ s ≤ k ∧ k < wr.heap.size) b0 ((i : Int) + 1) fuel wr (fun k hk => by rcases hk with hk | hk; exact Nat.lt_of_lt_of_le (HC.out.k.x0.1 k hk) HC.out.a.sz; exact hk.2) (Nat.le_trans HC.out.k.x0.2 HC.out.a.sz) (by omega) (by omega))
      go_wp2_with fail
      refine HDN.out.mono ?_
      rintro e w1 ⟨b, P, rfl, hb1, hf1, hN⟩
      have HN := Lib.hid (show NodeAt w1 (fun k => X0 k ∨ s ≤ k ∧ k < w1.heap.size) (fun k => wr.heap.size ≤ k ∧ k < w1.heap.size) b0 0 b P (newN ((i : Int) + 1) fuel) from hN.fr (Fr.refl (fun _ => False) w1) (fun _ h => h.elim) (fun k hk => by
        have := hf1.size
        have := HC.out.a.sz
        rcases hk with (hk | hk) | hk
        · exact .inl hk
        · exact .inr ⟨hk.1, by omega⟩
        · exact .inr ⟨by omega, hk.2⟩) (fun k hk => by
        rcases hk with hk | hk
        · exact .inl (.inl (.inl hk))
        · by_cases e : k < wr.heap.size
          · exact .inl (.inl (.inr ⟨hk.1, e⟩))
          · exact .inl (.inr ⟨by omega, hk.2⟩)) (fun _ _ h => h))
      have HF1 := Lib.hid hf1
      clear hb1 hf1 hN HDN
      go_wp2_with fail
      refine (nnew_any ((i : Int) + 1) w1 (by omega) (by omega)).mono ?_
      rintro e w2 ⟨t, mm, rfl, hb1, hb2, hN, hf2⟩
      have HM := Lib.hid hN
      have HF2 := Lib.hid hf2
      have HL2 := Lib.hid (And.intro hb1 (And.intro hb2 (And.intro hN.ne (And.intro hN.lt hN.tab.lt))))
      clear hb1 hb2 hN hf2
      have HC2 := Lib.hid ((HC.out.new HF1.out).new HF2.out)
      go_wp2_with fail
      have hPe := HP.out
      obtain ⟨NP, hNP⟩ : ∃ NP, NP = HC2.out.p := ⟨_, rfl⟩
      have hra := HC2.out.ra
      have hrb := HC2.out.rb
      have c0 := HC2.out.p.c0
      have c1 := HC2.out.p.c1
      have f0 := HC2.out.p.fz 0
      have f1 := HC2.out.p.fz 1
      rw [hPe] at hra hrb c0 c1 f0 f1
      obtain ⟨Aa, ca, rfl, -, -, -⟩ := own_any hra
      obtain ⟨Ab, cb, rfl, -, -, -⟩ := own_any hrb
      have hpl : p < w2.heap.size := World.block_lt_of_cell? w2 _ c0
      have HQ0 := Lib.hid (show Q2 w2 p i (.slice Aa i ca) (.slice Ab i cb) (ptrs pn i) (ptrs (fun j => bl (.Tb j)) i) (.pointer (some ⟨b, 0, none⟩)) (.pointer (some ⟨t, 0, none⟩)) none none w2.drew from Q2.start hra hrb hpl HC2.out.a.fab)
      have hi9 : i < 9 := by omega
      have HPc := Lib.hid (And.intro c0 (And.intro c1 (And.intro f0 f1)))
      clear c0 c1 f0 f1 hra hrb hPe hNP NP
      have c0 : w2.drew.cell? ⟨p, 0, none⟩ = some (.slice Aa i ca) := HPc.out.1
      have c1 : w2.drew.cell? ⟨p, 1, none⟩ = some (.slice Ab i cb) := HPc.out.2.1
      have f0 : w2.drew.frozen? ⟨p, 0, none⟩ = false := HPc.out.2.2.1
      have f1 : w2.drew.frozen? ⟨p, 1, none⟩ = false := HPc.out.2.2.2
      have c0w := HPc.out.1
      have c1w := HPc.out.2.1
      have f0w := HPc.out.2.2.1
      have f1w := HPc.out.2.2.2
      go_cut [] (fun wx => ∃ ga gca gb gcb W', Q2 w2 p i (.slice Aa i ca) (.slice Ab i cb) (ptrs pn i) (ptrs (fun j => bl (.Tb j)) i) (.pointer (some ⟨b, 0, none⟩)) (.pointer (some ⟨t, 0, none⟩)) (some (.slice (some ⟨ga, 0, none⟩) (i + 1) gca)) (some (.slice (some ⟨gb, 0, none⟩) (i + 1) gcb)) W' ∧ wx = (W'.setCell ⟨p, 0, none⟩ (.slice (some ⟨ga, 0, none⟩) (i + 1) gca)).setCell ⟨p, 1, none⟩ (.slice (some ⟨gb, 0, none⟩) (i + 1) gcb))
      case first =>
        go_region_law
          (first
            | (refine step_qa (w2 := w2) (p := p) (i := i) (va := .slice Aa i ca) (vb := .slice Ab i cb) (xa := ptrs pn i) (xb := ptrs (fun j => bl (.Tb j)) i) (x := .pointer (some ⟨b, 0, none⟩)) (yb := .pointer (some ⟨t, 0, none⟩)) (by rfl) _ _ (by rfl) (by rfl) (by rfl) (by first | (simp [go_sem]; done) | exact HK1.out _ _ (by first | exact Nat.le_refl _ | (simp; done) | (simp; omega)) (by simp [go_sem])) rfl hi9 (by first | exact HQ1.out | exact HQ1.out.alloc _ | exact HQ0.out | exact HQ0.out.alloc _ | exact (HQ0.out.alloc _).alloc _) ?_; intro ga gca W5 HQ' HK'; have HQ1 := Lib.hid HQ'; have HK1 := Lib.hid HK'; have c0 := HQ'.cells 0 _ HPc.out.1; have c1 := HQ'.cells 1 _ HPc.out.2.1; have hz5 := World.block_lt_of_cell? W5 _ c0; dsimp only at hz5; have f0 := HQ'.froz 0 HPc.out.2.2.1; have f1 := HQ'.froz 1 HPc.out.2.2.2; clear HQ' HK')
            | (refine step_qb (w2 := w2) (p := p) (i := i) (va := .slice Aa i ca) (vb := .slice Ab i cb) (xa := ptrs pn i) (xb := ptrs (fun j => bl (.Tb j)) i) (x := .pointer (some ⟨t, 0, none⟩)) (ya := .pointer (some ⟨b, 0, none⟩)) (by rfl) _ _ (by rfl) (by rfl) (by rfl) (by first | (simp [go_sem]; done) | exact HK1.out _ _ (by first | exact Nat.le_refl _ | (simp; done) | (simp; omega)) (by simp [go_sem])) rfl hi9 (by first | exact HQ1.out | exact HQ1.out.alloc _ | exact HQ0.out | exact HQ0.out.alloc _ | exact (HQ0.out.alloc _).alloc _) ?_; intro gb gcb W5 HQ' HK'; have HQ1 := Lib.hid HQ'; have HK1 := Lib.hid HK'; have c0 := HQ'.cells 0 _ HPc.out.1; have c1 := HQ'.cells 1 _ HPc.out.2.1; have hz5 := World.block_lt_of_cell? W5 _ c0; dsimp only at hz5; have f0 := HQ'.froz 0 HPc.out.2.2.1; have f1 := HQ'.froz 1 HPc.out.2.2.2; clear HQ' HK'))
        all_goals
          go_wp2_with fail
          go_meet
          exact ⟨_, _, _, _, _, HQ1.out, rfl⟩
      case rest =>
        rename World => wc
        obtain ⟨ga, gca, gb, gcb, W', hQ, hwx⟩ := hcut
        have hF1 : Fr (fun x => x = p) W' wc := by rw [hwx]; exact Fr.set (S := fun x => x = p) (Fr.set (S := fun x => x = p) (Fr.refl _ W') (.inl rfl) _) (.inl rfl) _
        have hF2 : Fr (fun x => x = p ∨ (Value.slice Aa i ca).ownBlock = some x ∨ (Value.slice Ab i cb).ownBlock = some x) w2 wc := hQ.fr.trans' (hF1.weak fun x h => .inl h)
        have ba := hQ.ra.blk (fun g e => (hQ.lta g e).1) hQ.pl
        have bb := hQ.rb.blk (fun g e => (hQ.ltb g e).1) hQ.pl
        have hPN : NwP wc bl (.slice (some ⟨ga, 0, none⟩) (i + 1) gca) (.slice (some ⟨gb, 0, none⟩) (i + 1) gcb) := by
          have hp2 := HC2.out.p
          have hPe := HP.out
          refine ⟨?_, ?_, ?_, ?_, ?_, ?_, ?_, ?_, ?_, fun o => ?_⟩ <;> rw [hPe, hwx]
          · simp [go_sem, hQ.cells 0 _ HPc.out.1]
          · simp [go_sem, hQ.cells 1 _ HPc.out.2.1]
          · have := hQ.cells 2 _ (hPe ▸ hp2.c2); simp [go_sem, this]
          · have := hQ.cells 3 _ (hPe ▸ hp2.c3); simp [go_sem, this]
          · have := hQ.cells 4 _ (hPe ▸ hp2.c4); simp [go_sem, this]
          · have := hQ.cells 5 _ (hPe ▸ hp2.c5); simp [go_sem, this]
          · have := hQ.cells 6 _ (hPe ▸ hp2.c6); simp [go_sem, this]
          · have := hQ.cells 7 _ (hPe ▸ hp2.c7); simp [go_sem, this]
          · have := hQ.cells 8 _ (hPe ▸ hp2.c8); simp [go_sem, this]
          · have := hQ.froz o (hPe ▸ hp2.fz o); simpa [go_sem] using this
        have hmore := HC.out.more (w' := wc) (p := b) (t := t) (m := mm) (P := P) (va' := .slice (some ⟨ga, 0, none⟩) (i + 1) gca) (vb' := .slice (some ⟨gb, 0, none⟩) (i + 1) gcb) ⟨Nat.lt_irrefl _, Nat.lt_irrefl _⟩ HF1.out HF2.out HN.out HM.out HL2.out (by rw [HP.out]; exact hF2) hPN
          (by rw [HP.out]; exact hF1.row hQ.ra.2.1 (fun g e h => by have := (ba g e).1; omega)) (by rw [HP.out]; exact hF1.row hQ.rb.2.1 (fun g e h => by have := (bb g e).1; omega)) hQ.ra.2.2 hQ.rb.2.2 hQ.ne
        have HBC := Lib.hid (show Below s w wc from by
          have hb0 := HC.out.a.sz
          have hb2 : Below s w w2 := (HB.out.trans (HF1.out.below (fun _ h => h.elim) hb0)).trans (HF2.out.below (fun _ h => h.elim) (Nat.le_trans hb0 HF1.out.size))
          refine hb2.trans (hF2.below (fun x hx => ?_) (Nat.le_trans hb0 (Nat.le_trans HF1.out.size HF2.out.size)))
          rcases hx with h | h | h
          · rw [h, ← HP.out]; exact (HC.out.a.lt _ HC.out.a.pr.1).1
          · exact (HC.out.a.fa _ h).2.2.1
          · exact (HC.out.a.fb _ h).2.2.1)
        have HCN := Lib.hid (hmore.congr (ok' := okI N (i + 1) 0) (okI_more N i))
        have HPT := Lib.hid (show blT bl i t mm .P = p from HP.out)
        obtain ⟨bl2, hbl2⟩ : ∃ bl2, blT bl i t mm = bl2 := ⟨_, rfl⟩
        rw [hbl2] at HCN HPT
        clear hQ hF1 hF2 ba bb hwx HC2 HC HN HM HB HQ0 HP HPc hPN hmore HF1 HF2 HL2 c0 c1 f0 f1 c0w c1w f0w f1w hbl2 hpl
        go_wp2_with fail
        go_loopw [13] (fun x wi => ∃ (k nm' : Nat) (bl' : CBk → Nat) (g' : Nat → Nat → Option Value), k ≤ N ∧ x = .int .i64 ((k : Int) + 1) ∧ Hid (bl' .P = p) ∧ nm' ≤ 10 * i + k ∧ Hid (NwG wi s X0 b0 (okI N (i + 1) k) bl' (i + 1) fuel (.slice (some ⟨ga, 0, none⟩) (i + 1) gca) (.slice (some ⟨gb, 0, none⟩) (i + 1) gcb) (updN pn i b) (updN lo i wr.heap.size) (updN hh i w1.heap.size) (updN Pn i P) nm' g') ∧ Hid (Below s w wi)) (fun x _ => N + 1 - (intOf x).toNat)
        case atStart => exact ⟨0, nm, bl2, g, by omega, rfl, HPT, by omega, HCN, HBC⟩
        case round =>
          rename World => wi
          obtain ⟨k, nm', bl', g', hkN, rfl, HPi, hnm', HCi, HBi⟩ := hrel
          by_cases hk : k < N
          · have hd2 : decide ((k : Int) + 1 ≤ (N : Int)) = true := decide_eq_true (by omega)
            by_cases hki : k = i
            · have hne : ((k : Int) + 1 != (i : Int) + 1) = false := by simp [hki]
              have HKI := Lib.hid hki
              clear hki
              go_wp2_with fail
              exact ⟨⟨k + 1, nm', bl', g', by omega, by go_num, HPi, by omega, Lib.hid (HCi.out.congr (by have := HKI.out; subst this; exact okI_skip N k)), HBi⟩, by simp [intOf]; omega⟩
            · have hne : ((k : Int) + 1 != (i : Int) + 1) = true := by simp; omega
              have HKI := Lib.hid hki
              have hmel := (HCi.out.a.lt _ HCi.out.a.pr.2.1).2
              have hmp : bl' .Me ≠ bl' .P := fun e => by cases HCi.out.a.inj _ _ HCi.out.a.pr.2.1 HCi.out.a.pr.1 e
              have c2 : wi.drew.cell? ⟨p, 2, none⟩ = some (.map (some (bl' .Me))) := by have := HCi.out.p.c2; rw [HPi.out] at this; exact this
              rw [HPi.out] at hmp
              have hno : ¬ okI N (i + 1) k (.Ed i k) := fun h => by
                have : (i + 1 < i + 1 ∧ k < N ∧ i ≠ k) ∨ (i + 1 = i + 1 ∧ k < k ∧ i ≠ k) := h
                omega
              have HNO := Lib.hid hno
              have hpl2 : p < wi.drew.heap.size := World.block_lt_of_cell? wi _ c2
              obtain ⟨me, hme⟩ : ∃ me, bl' .Me = me := ⟨_, rfl⟩
              rw [hme] at c2 hmp hmel
              have HME := Lib.hid hme
              have HPM := Lib.hid hmp
              clear hki hme hno hmp
              go_wp2_with fail
              go_region_held3 (fun W => W.cell? ⟨p, 2, none⟩ = some (.map (some me)))
                (first | exact c2 | exact z2 | exact x2 | go_keep)
                (first
                  | (go_at_call 36; refine (lnew_any wi.drew).mono ?_; rintro e wa ⟨tl, rfl, htl, hEQ, hfa⟩; have HFA := Lib.hid (show Fr (fun _ => False) wi wa from ((Fr.refl _ wi).drew).trans' hfa); have HTL := Lib.hid htl; have HEQ := Lib.hid hEQ; have z2 := hfa.cell c2 (fun h => h); obtain ⟨wb, hrun, hob, hgb⟩ := OwnW.store und_mwe (HCi.out.me.fr HFA.out (fun h => h)) (by unfold maxLen; omega) (i + 1) (k + 1) (.pointer (some ⟨tl, 0, none⟩)) (by omega) (by omega); rw [wayV_succ, HME.out] at hrun; have HOB := Lib.hid hob; have HGB := Lib.hid hgb; rw [HME.out] at hgb; have x2 := (grown_cell (b := p) (o := 2) hgb (World.block_lt_of_cell? wa _ z2) (fun e => by injection e with e; exact HPM.out e.symm)).trans z2; clear hfa htl hEQ hob hgb))
              all_goals
                go_wp2_with fail
                have hgn := (HCi.out.gv i k (by omega) (by omega)).2.1 HNO.out
                have hol := HOB.out
                rw [hgn] at hol
                have hb : Below s wa wb := (Below.refl s wa).grown HGB.out (Nat.le_trans HCi.out.a.sz HFA.out.size) (fun g e => by injection e with e; rw [← e]; exact (HCi.out.a.lt _ HCi.out.a.pr.2.1).1)
                exact ⟨⟨k + 1, nm' + 1, blE bl' i k tl, _, by omega, by go_num, Lib.hid HPi.out, by omega, Lib.hid ((HCi.out.line (g' := g') HFA.out HEQ.out HTL.out HNO.out ⟨by omega, by omega⟩ HGB.out hol).congr (okI_line N i k HKI.out)), Lib.hid ((HBi.out.trans (HFA.out.below (fun _ h => h.elim) HCi.out.a.sz)).trans hb)⟩, by simp [intOf]; omega⟩
          · have hd2 : decide ((k : Int) + 1 ≤ (N : Int)) = false := decide_eq_false (by omega)
            obtain rfl : k = N := by omega
            go_wp2_with fail
            exact ⟨⟨i + 1, bl', _, _, _, _, _, _, nm', g', by omega, by go_num, HPi, by omega, HCi, HBi⟩, by simp [intOf]; omega⟩
    · have hd : decide ((i : Int) + 1 ≤ (N : Int)) = false := decide_eq_false (by omega)
      obtain rfl : i = N := by omega
      go_wp2_with fail
      obtain ⟨bl', he, hc⟩ := HC.out.done h1 h8 (by omega)
      have hsz := HS.out
      refine bodyPost_ret (results_two Tryz.results7 _ _) rfl ?_
      rw [← hsz] at hc HB
      exact ⟨bl', pn, by rw [he, HP.out]; rfl, hc, HB.out⟩
end Go.Proofs.YthgbcgphkddmgaaGreat.Cx
