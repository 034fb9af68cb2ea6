/- A quiet cluster: flow. A quiet cluster: a turn of a node. A quiet cluster: Spawn, Free, Name. Numbers that lie somewhere. Cells of a block. -/
import Derived.Test.YthgbcgphkddmgaaGreatZBC
import Derived.Maps.AppendAt
import Derived.Test.YthgbcgphkddmgaaGreatZAL
import Derived.Test.YthgbcgphkddmgaaGreatZAQ
import Derived.Test.YthgbcgphkddmgaaGreatZAO
namespace Go.Proofs.YthgbcgphkddmgaaGreat
open Go.RowKit Go.Maps
set_option linter.unusedVariables false
set_option linter.unusedSimpArgs false
section
variable {w w' : World} {X X' Mc Mc' : Nat → Prop} {base T : Nat} {bl : CBk → Nat} {pn : Nat → Nat} {vl : Value} {ll : Nat} {M : Nat → Nat → Prop} {Pn : Nat → Int → Nat} {C : CqS}
theorem CqG.due (h : CqG w X Mc base T bl pn vl ll M Pn C) {i k : Nat} (hi : i < C.n) (hk : k < C.n) (hne : i ≠ k) (hf : Fr (fun b => b = bl (.Ed i k)) w w') (hq : EndQ w' (bl (.Ed i k))) : CqG w' X Mc base T bl pn vl ll M Pn C := by
  have hok : (CBk.Ed i k).ok C.n := ⟨hi, hk, hne⟩
  have hn : ∀ a, a.ok C.n → a ≠ .Ed i k → ¬ bl a = bl (.Ed i k) := fun a ha e => h.ne ha hok e
  obtain ⟨m1, q1, h1⟩ := h.co.me
  obtain ⟨m2, q2, h2⟩ := h.co.mh
  obtain ⟨xs, h3⟩ := h.co.lg
  refine ⟨h.n8, h.inj, h.own, h.vlm, h.sub, h.mx, h.dis, h.nodes hf (fun b hb => .inl ⟨_, hok, hb⟩), h.ids, h.cp.fr hf (hn .P trivial (by intro e; cases e)), ⟨fun j hj => hf.cell (h.co.ra j hj) (hn .Va trivial (by intro e; cases e)), fun j hj => hf.cell (h.co.rb j hj) (hn .Vb trivial (by intro e; cases e)), fun j hj => (h.co.nm j hj).fr hf (hn (.Tb j) hj (by intro e; cases e)) (hn (.Mb j) hj (by intro e; cases e)), ⟨m1, q1, h1.fr hf (hn .Me trivial (by intro e; cases e))⟩, fun j l hj hl e => ?_, h.co.mw.fr hf (hn .Mw trivial (by intro e; cases e)), h.co.mt.fr hf (hn .Mt trivial (by intro e; cases e)), h.co.mo.fr hf (hn .Mo trivial (by intro e; cases e)), ⟨m2, q2, h2.fr hf (hn .Mh trivial (by intro e; cases e))⟩, ⟨xs, hf.row h3 (fun b hb e => (h.vlm b hb).2.2 _ hok e.symm)⟩⟩⟩
  by_cases e2 : j = i ∧ l = k
  · obtain ⟨rfl, rfl⟩ := e2
    exact hq
  · exact (h.co.ed j l hj hl e).fr hf (hn (.Ed j l) ⟨hj, hl, e⟩ (by intro e; injection e with a b; exact e2 ⟨a, b⟩))
theorem outN_same {N : NdS} (h : N.out = []) : outN N = N := by
  unfold outN
  cases N
  simp at h
  subst h
  rfl
theorem CqG.same (h : CqG w X Mc base T bl pn vl ll M Pn C) {i : Nat} {N' : NdS} (e : N' = C.nd i) : { C with nd := updN C.nd i N' } = C := by
  subst e
  have : updN C.nd i (C.nd i) = C.nd := by
    funext j
    unfold updN
    split
    · rename_i e; rw [e]
    · rfl
  rw [this]
set_option maxRecDepth 100000 in
set_option maxHeartbeats 4000000 in
theorem flow_q (h : CqG w X Mc base T bl pn vl ll M Pn C) {i : Nat} (hi : i < C.n) (hout : (C.nd i).out = []) :
    Calls Tryz.prog 42 #[.pointer (some ⟨bl .P, 0, none⟩), .int .i64 ((i : Int) + 1)] w (CqPost X Mc base T bl pn ll C w (.tuple #[])) := by
  have h8 := h.n8
  obtain ⟨ca, c0⟩ := h.cp.c0
  have HAT := Lib.hid (at_any (bl .P) C.n (bl .Va) ca i (pn i) ((i : Int) + 1) w c0 hi (by omega) rfl (h.co.ra i hi))
  have HOUT := Lib.hid (out_any (h.nd i hi))
  have HH := Lib.hid h
  have HOL := Lib.hid hout
  clear h c0
  go_enter Tryz.func42, Tryz.ntmps42
  go_wp2_with fail
  refine HAT.out.mono ?_
  rintro e w1 ⟨rfl, rfl⟩
  go_wp2_with fail
  refine HOUT.out.mono ?_
  rintro e w2 ⟨A, c, S, M', rfl, -, -, -, -, hg, hN⟩
  obtain ⟨Pi, hPi⟩ : ∃ Pi, Pi = Pn i := ⟨_, rfl⟩
  rw [← hPi] at hN
  rw [outN_same HOL.out] at hN
  have hC := HH.out.node hi hg hN (Nat.le_refl _) (HH.out.ids i hi)
  rw [HH.out.same rfl] at hC
  have HC := Lib.hid hC
  have HG := Lib.hid (Gr.cl HH.out hi hg)
  have HL0 := Lib.hid (show (C.nd i).out.length = 0 by rw [HOL.out]; rfl)
  obtain ⟨n0, hn0⟩ : ∃ n0, (C.nd i).out.length = n0 := ⟨_, rfl⟩
  rw [hn0]
  have hn1 : n0 = 0 := hn0.symm.trans HL0.out
  subst hn1
  clear hC hg hN HAT HOUT hn0
  go_wp2_with fail
  go_loopw [5, 6, 13] (fun _ _ v wr => v = .int .i64 0 ∧ wr = w2) (fun _ _ _ _ => 0)
  case atStart => exact ⟨rfl, rfl⟩
  case round =>
    obtain ⟨rfl, rfl⟩ := hrel
    go_wp2_with fail
    obtain ⟨M1, hM1⟩ : ∃ M1, M1 = updN M i M' := ⟨_, rfl⟩
    rw [← hM1] at HC
    clear hM1
    obtain ⟨Pn', hPn'⟩ : ∃ Pn', Pn' = updN Pn i Pi := ⟨_, rfl⟩
    rw [← hPn'] at HC
    clear hPn'
    have HF := Lib.hid (Fr.refl (fun k => Mc k ∨ M' k) wr)
    go_loopw [7] (fun v wx => ∃ k : Nat, k ≤ C.n ∧ v = .int .i64 ((k : Int) + 1) ∧ Hid (CqG wx X (fun k => Mc k ∨ M' k) base T bl pn vl ll M1 Pn' C) ∧ Hid (Fr (fun k => Mc k ∨ M' k) wr wx)) (fun v _ => C.n + 1 - (intOf v).toNat)
    case atStart => exact ⟨0, Nat.zero_le _, rfl, HC, HF⟩
    case round =>
      rename World => wx
      obtain ⟨k, hk, rfl, HCx, HFx⟩ := hrel
      obtain ⟨cx, c0⟩ := HCx.out.cp.c0
      by_cases hlt : k < C.n
      · have hd : decide ((k : Int) + 1 ≤ (C.n : Int)) = true := decide_eq_true (by omega)
        have hk8 : (k : Int) + 1 ≤ 8 := by omega
        by_cases hki : k = i
        · have hne : ((k : Int) + 1 != (i : Int) + 1) = false := by simp [hki]
          clear hki
          go_wp2_with fail
          exact ⟨⟨k + 1, by omega, by go_num, HCx, HFx⟩, by simp [intOf]; omega⟩
        · have hne : ((k : Int) + 1 != (i : Int) + 1) = true := by simp; omega
          have hfill := fill_q HCx.out hi hlt (fun e => hki e.symm)
          rw [wayV_succ] at hfill
          have HFILL := Lib.hid hfill
          have HKI := Lib.hid hki
          clear hfill hki
          go_wp2_with fail
          refine HFILL.out.mono ?_
          rintro e w3 ⟨rfl, hq, hf⟩
          have HC3 := Lib.hid (HCx.out.due hi hlt (fun e => HKI.out e.symm) hf hq)
          have HF3 := Lib.hid (HFx.out.trans' (hf.weak (S2 := fun k => Mc k ∨ M' k) (fun b hb => by
            subst hb
            exact (HCx.out.own (.Ed i k) ⟨hi, hlt, fun e => HKI.out e.symm⟩).1)))
          clear hq hf HFILL
          go_wp2_with fail
          exact ⟨⟨k + 1, by omega, by go_num, HC3, HF3⟩, by simp [intOf]; omega⟩
      · have hd : decide ((k : Int) + 1 ≤ (C.n : Int)) = false := decide_eq_false (by omega)
        go_wp2_with fail
        refine bodyPost_end (results_none rfl _ _ _) rfl ⟨rfl, X, fun k => Mc k ∨ M' k, ⟨?_, HG.out.up, HG.out.xs, HG.out.ms⟩, ⟨vl, _, _, HCx.out⟩⟩
        exact HG.out.fr.trans HFx.out (fun b hb => HG.out.ms b hb)
end
end Go.Proofs.YthgbcgphkddmgaaGreat
namespace Go.Proofs.YthgbcgphkddmgaaGreat
open Go.RowKit Go.Maps
set_option linter.unusedVariables false
set_option linter.unusedSimpArgs false
theorem infoEv : (Tryz.prog.info? 106).map (fun i => (i.zero, i.size, i.bytes)) = some (some (.agg #[.int .i64 0, .int .i64 0, .int .i64 0, .int .i64 0]), 4, 32) := by kernel_rfl
section
variable {w w' : World} {X X' Mc Mc' : Nat → Prop} {base T : Nat} {bl : CBk → Nat} {pn : Nat → Nat} {vl : Value} {ll : Nat} {M : Nat → Nat → Prop} {Pn : Nat → Int → Nat} {C : CqS}
/-- an event has been logged -/
theorem CqG.logged (h : CqG w X Mc base T bl pn vl ll M Pn C) {w2 : World} {v' : Value} {xs : List Value} (hf : Fr (fun k => vl.ownBlock = some k) w w2) (hr : w2.ownsRow base 106 4 v' (ll + 1) xs) (hat : v'.ownBlock = vl.ownBlock ∨ ∃ q, v'.ownBlock = some q ∧ w.heap.size ≤ q) :
    Gr X Mc w (fun k => X k ∨ v'.ownBlock = some k) (fun k => Mc k ∨ v'.ownBlock = some k) (w2.setCell ⟨bl .P, 8, none⟩ v') ∧ CqG (w2.setCell ⟨bl .P, 8, none⟩ v') (fun k => X k ∨ v'.ownBlock = some k) (fun k => Mc k ∨ v'.ownBlock = some k) base T bl pn v' (ll + 1) M Pn C := by
  have hPok : (CBk.P).ok C.n := trivial
  have hvP : ¬ vl.ownBlock = some (bl .P) := fun e => (h.vlm _ e).2.2 .P trivial rfl
  have hf3 : Fr (fun k => k = bl .P ∨ vl.ownBlock = some k) w (w2.setCell ⟨bl .P, 8, none⟩ v') := (hf.weak (fun k hk => .inr hk)).set (.inl (.inl rfl)) _
  have hbl : ∀ a, a.ok C.n → bl a < w.heap.size := fun a ha => h.xlt _ (h.mx _ (h.own a ha).1).1
  have hml : ∀ i, i < C.n → ∀ k, M i k → k < w.heap.size := fun i hi k hk => h.xlt _ (h.mx _ (h.sub i hi k hk)).1
  have hv : ∀ k, v'.ownBlock = some k → vl.ownBlock = some k ∨ w.heap.size ≤ k := fun k hk => by
    rcases hat with e | ⟨q, e, hq⟩
    · exact .inl (e.symm.trans hk)
    · rw [e] at hk
      injection hk with hk
      exact .inr (hk ▸ hq)
  have hvlt : ∀ k, v'.ownBlock = some k → base ≤ k ∧ k < (w2.setCell ⟨bl .P, 8, none⟩ v').heap.size := fun k hk => by
    have := hr.lt k hk
    simp
    omega
  have hDm : ∀ k, (k = bl .P ∨ vl.ownBlock = some k) → Mc k := fun k hk => by
    rcases hk with e | e
    · subst e; exact (h.own .P trivial).1
    · exact (h.vlm k e).1
  refine ⟨⟨hf3.weak hDm, fun k hk => .inl hk, fun k hk => ?_, fun k hk => ?_⟩, ?_⟩
  · rcases hk with hk | hk
    · exact .inl hk
    · rcases hv k hk with e | e
      · exact .inl (h.mx _ (h.vlm k e).1).1
      · exact .inr e
  · rcases hk with hk | hk
    · exact .inl hk
    · rcases hv k hk with e | e
      · exact .inl (h.vlm k e).1
      · exact .inr e
  obtain ⟨m1, q1, h1⟩ := h.co.me
  obtain ⟨m2, q2, h2⟩ := h.co.mh
  have hn : ∀ a, a.ok C.n → a ≠ .P → ¬ (bl a = bl .P ∨ vl.ownBlock = some (bl a)) := fun a ha e hk => by
    rcases hk with hk | hk
    · exact h.ne ha hPok e hk
    · exact (h.vlm _ hk).2.2 a ha rfl
  obtain ⟨ca, p0⟩ := h.cp.c0
  obtain ⟨cb, p1⟩ := h.cp.c1
  have hP2 : ∀ o u, w.cell? ⟨bl .P, o, none⟩ = some u → w2.cell? ⟨bl .P, o, none⟩ = some u := fun o u hu => hf.cell hu hvP
  refine ⟨h.n8, h.inj, fun a ha => ⟨.inl (h.own a ha).1, (h.own a ha).2⟩, fun k hk => ⟨.inr hk, fun i hi hm => ?_, fun a ha e => ?_⟩, fun i hi k hk => .inl (h.sub i hi k hk), fun k hk => ?_, h.dis, fun i hi => ?_, h.ids, ?_, ?_⟩
  · rcases hv k hk with e | e
    · exact (h.vlm k e).2.1 i hi hm
    · have := hml i hi k hm; omega
  · rcases hv k hk with e2 | e2
    · exact (h.vlm k e2).2.2 a ha e
    · have := hbl a ha; omega
  · rcases hk with hk | hk
    · exact ⟨.inl (h.mx k hk).1, (h.mx k hk).2⟩
    · exact ⟨.inr hk, (hvlt k hk).1⟩
  · refine (h.nd i hi).fr hf3 (fun k hk => h.mx k (hDm k hk)) (fun k hk => .inl hk) (fun k hk => ?_) (fun k hm hk => ?_)
    · rcases hk with hk | hk
      · exact .inl hk
      · rcases hv k hk with e | e
        · exact .inl (h.mx _ (h.vlm k e).1).1
        · exact .inr ⟨e, (hvlt k hk).2⟩
    · rcases hk with e | e
      · subst e; exact (h.own .P trivial).2 i hi hm
      · exact (h.vlm k e).2.1 i hi hm
  · exact ⟨⟨ca, set_other (hP2 _ _ p0) (by decide)⟩, ⟨cb, set_other (hP2 _ _ p1) (by decide)⟩, set_other (hP2 _ _ h.cp.c2) (by decide), set_other (hP2 _ _ h.cp.c3) (by decide), set_other (hP2 _ _ h.cp.c4) (by decide), set_other (hP2 _ _ h.cp.c5) (by decide), set_other (hP2 _ _ h.cp.c6) (by decide), set_other (hP2 _ _ h.cp.c7) (by decide), set_this (hP2 _ _ h.cp.c8), set_fz (fun o => (hf.frozen (hbl .P trivial) hvP).trans (h.cp.fz o))⟩
  · exact ⟨fun j hj => hf3.cell (h.co.ra j hj) (hn .Va trivial (by intro e; cases e)), fun j hj => hf3.cell (h.co.rb j hj) (hn .Vb trivial (by intro e; cases e)), fun j hj => (h.co.nm j hj).fr hf3 (hn (.Tb j) hj (by intro e; cases e)) (hn (.Mb j) hj (by intro e; cases e)), ⟨m1, q1, h1.fr hf3 (hn .Me trivial (by intro e; cases e))⟩, fun j l hj hl e => (h.co.ed j l hj hl e).fr hf3 (hn (.Ed j l) ⟨hj, hl, e⟩ (by intro e; cases e)), h.co.mw.fr hf3 (hn .Mw trivial (by intro e; cases e)), h.co.mt.fr hf3 (hn .Mt trivial (by intro e; cases e)), h.co.mo.fr hf3 (hn .Mo trivial (by intro e; cases e)), ⟨m2, q2, h2.fr hf3 (hn .Mh trivial (by intro e; cases e))⟩, ⟨xs, (Fr.setAt (Fr.refl (fun k => k = bl .P) w2) v').row hr (fun k hk e => by
      rcases hv k hk with e2 | e2
      · exact (h.vlm k e2).2.2 .P trivial e.symm
      · have := hbl .P trivial; omega)⟩⟩
def CTurnPost (X Mc : Nat → Prop) (base T : Nat) (bl : CBk → Nat) (pn : Nat → Nat) (ll : Nat) (C : CqS) (i : Nat) (w : World) (e : Ending) (w' : World) : Prop :=
  (∃ r, e = .returned (.tuple #[.int .i64 r, .int .i64 (turnN (C.nd i)).2.2])) ∧ ∃ X' Mc' l', l' ≤ ll + 1 ∧ Gr X Mc w X' Mc' w' ∧ CqAt w' X' Mc' base (T + 60000000) bl pn l' { C with nd := updN C.nd i (turnN (C.nd i)).1 }
set_option maxRecDepth 100000 in
set_option maxHeartbeats 4000000 in
theorem cturn_any (h : CqG w X Mc base T bl pn vl ll M Pn C) {i : Nat} (hi : i < C.n) (hout : (turnN (C.nd i)).1.out = []) (hid : (turnN (C.nd i)).1.id = (i : Int) + 1) (hT : T + 200000000 ≤ 1000000000000) (hll : ll ≤ 1000000) :
    Calls Tryz.prog 12 #[.pointer (some ⟨bl .P, 0, none⟩), .int .i64 ((i : Int) + 1)] w (CTurnPost X Mc base T bl pn ll C i w) := by
  have h8 := h.n8
  obtain ⟨ca, c0⟩ := h.cp.c0
  have HAT := Lib.hid (at_any (bl .P) C.n (bl .Va) ca i (pn i) ((i : Int) + 1) w c0 hi (by omega) rfl (h.co.ra i hi))
  have HTH := Lib.hid (there_any (bl .P) C.n ca _ ((i : Int) + 1) w c0 (by omega) (by omega))
  have HTU := Lib.hid (turn_any (h.nd i hi) hT)
  have HH := Lib.hid h
  have HO := Lib.hid hout
  have HID := Lib.hid hid
  clear h c0 hout hid
  go_enter Tryz.func12, Tryz.ntmps12
  go_wp2_with fail
  refine HTH.out.mono ?_
  rintro e w1 ⟨rfl, rfl⟩
  go_wp2_with fail
  refine HAT.out.mono ?_
  rintro e w1 ⟨rfl, rfl⟩
  go_wp2_with fail
  refine HTU.out.mono ?_
  rintro e w2 ⟨rfl, P', X2, M2, hg, hN⟩
  have HC := Lib.hid (HH.out.node hi hg hN (by omega) HID.out)
  have HG := Lib.hid (Gr.cl HH.out hi hg)
  obtain ⟨er, her⟩ : ∃ er, (turnN (C.nd i)).2.2 = er := ⟨_, rfl⟩
  obtain ⟨rr, hrr⟩ : ∃ rr, (turnN (C.nd i)).2.1 = rr := ⟨_, rfl⟩
  rw [her, hrr]
  have HER := Lib.hid her
  clear hg hN her hrr HTU HTH HAT
  by_cases e0 : er = 0
  · subst e0
    have c8 := HC.out.cp.c8
    have hfz := HC.out.cp.fz
    have hpl : bl .P < w2.heap.size := World.block_lt_of_cell? w2 _ c8
    obtain ⟨xs, hlg⟩ := HC.out.co.lg
    obtain ⟨A9, c9, rfl, -, -, -⟩ := own_any hlg
    have HLG := Lib.hid hlg
    have hvP : ¬ (Value.slice A9 ll c9).ownBlock = some (bl .P) := fun e => (HC.out.vlm _ e).2.2 .P trivial rfl
    have hbase : base ≤ w2.heap.size := by have := (HC.out.mx _ (HC.out.own .P trivial).1).2; omega
    obtain ⟨i0, hi0, hz0, hzs, hzb⟩ := info_parts infoEv
    have hal : ∀ (r : List Value), w2.cell? ⟨bl .P, 8, none⟩ = (w2.alloc (.cells r.toArray 106)).cell? ⟨bl .P, 8, none⟩ := fun r => (World.cell?_alloc_lt w2 _ ⟨bl .P, 8, none⟩ hpl).symm
    clear hlg
    go_wp2_with (at_builtin; go_loud (refine wpList_append_own_at _ rfl _ _ 88 rfl base 106 i0 _ 4 32 Tryz.underlying88 hi0 hz0 hzs hzb rfl (by omega) (.slice A9 ll c9) ll xs rfl ((Fr.refl (fun _ => False) w2).alloc _ |>.row HLG.out (fun _ _ h => h)) ⟨w2.heap.size, 0, none⟩ 1 1 [.int .i64 1, .int .i64 ((i : Int) + 1), .int .i64 rr, .int .i64 0] rfl rfl (cell_newL _ _ _ _ rfl) (by intro u hu; simp at hu; rcases hu with rfl | rfl | rfl | rfl <;> rfl) (by unfold maxLen; omega) (by omega) (by simp; omega) ?_; intro v3 w3 hown3 hgrow3 _ hat3; obtain ⟨A3, c3, rfl, -, -, -⟩ := own_any hown3; have HF3 := Lib.hid (show Fr (fun k => (Value.slice A9 ll c9).ownBlock = some k) w2 w3 from ((Fr.refl _ w2).alloc _).trans' (Fr.of_grown hgrow3 (fun b hb => .inl hb))); have k8 := HF3.out.cell c8 hvP; have kf := (HF3.out.frozen hpl hvP).trans (hfz 8); have hpl3 := Nat.lt_of_lt_of_le hpl HF3.out.size; have HO3 := Lib.hid hown3; have HA3 := Lib.hid hat3; clear hown3 hgrow3 hat3 hal))
    all_goals
      have hlog := HC.out.logged HF3.out HO3.out (by
        rcases HA3.out with e | e
        · exact .inl e
        · exact .inr ⟨_, e, by simp⟩)
      obtain ⟨W4, hW4⟩ : ∃ W4, W4 = w3.setCell ⟨bl .P, 8, none⟩ (.slice A3 (ll + 1) c3) := ⟨_, rfl⟩
      rw [← hW4] at hlog
      have HLO := Lib.hid hlog
      have hflow := flow_q hlog.2 hi (by show (updN C.nd i _ i).out = []; rw [updN_self]; exact HO.out)
      have HFL := Lib.hid hflow
      have HW4 := Lib.hid hW4
      clear hlog hflow hW4 c8 hfz k8 kf
      rw [← HW4.out]
      refine HFL.out.mono ?_
      rintro e w5 ⟨rfl, X5, M5, hg5, hc5⟩
      have HG5 := Lib.hid ((HG.out.trans HLO.out.1).trans hg5)
      have HC5 := Lib.hid hc5
      clear hg5 hc5 HFL HLO
      go_wp2_with fail
      refine bodyPost_ret (results_two Tryz.results12 _ _) rfl ⟨⟨rr, by rw [HER.out]; rfl⟩, X5, M5, ll + 1, Nat.le_refl _, HG5.out, HC5.out⟩
  · have hne : (er != 0) = true := by simpa using e0
    clear e0
    go_wp2_with fail
    exact bodyPost_ret (results_two Tryz.results12 _ _) rfl ⟨⟨0, by rw [HER.out]; rfl⟩, X2, _, ll, by omega, HG.out, ⟨_, _, _, HC.out⟩⟩
end
end Go.Proofs.YthgbcgphkddmgaaGreat
namespace Go.Proofs.YthgbcgphkddmgaaGreat
open Go.RowKit Go.Maps
set_option linter.unusedVariables false
set_option linter.unusedSimpArgs false
theorem und_mib : Tryz.prog.underlying 84 = some (.map 3 4) := Tryz.underlying84
section
variable {w w' : World} {X X' Mc Mc' : Nat → Prop} {base T : Nat} {bl : CBk → Nat} {pn : Nat → Nat} {vl : Value} {ll : Nat} {M : Nat → Nat → Prop} {Pn : Nat → Int → Nat} {C : CqS}
/-- the cluster wrote some of its own blocks -/
theorem CqG.chg (h : CqG w X Mc base T bl pn vl ll M Pn C) (A : CBk → Prop) (hA : ¬ A .P) (hf : Fr (fun k => ∃ a, a.ok C.n ∧ A a ∧ k = bl a) w w') {cnt' : Nat → Int} {tab' : Nat → Nat → Option Nm.RW} {held' : Int → Bool} {hn' : Nat} (hco : CqO w' base bl pn ⟨C.n, C.nd, cnt', tab', held', hn'⟩ vl ll) : CqG w' X Mc base T bl pn vl ll M Pn ⟨C.n, C.nd, cnt', tab', held', hn'⟩ :=
  ⟨h.n8, h.inj, h.own, h.vlm, h.sub, h.mx, h.dis, h.nodes hf (fun k hk => by obtain ⟨a, ha, _, e⟩ := hk; exact .inl ⟨a, ha, e⟩), h.ids, h.cp.fr hf (fun hk => by obtain ⟨a, ha, hA2, e⟩ := hk; exact hA ((h.inj .P a trivial ha e) ▸ hA2)), hco⟩
theorem CqG.off (h : CqG w X Mc base T bl pn vl ll M Pn C) {A : CBk → Prop} {a : CBk} (ha : a.ok C.n) (hn : ¬ A a) : ¬ ∃ b, b.ok C.n ∧ A b ∧ bl a = bl b := fun ⟨b, hb, hA, e⟩ => hn ((h.inj a b ha hb e) ▸ hA)
theorem CqG.offv (h : CqG w X Mc base T bl pn vl ll M Pn C) {A : CBk → Prop} {k : Nat} (hk : vl.ownBlock = some k) : ¬ ∃ b, b.ok C.n ∧ A b ∧ k = bl b := fun ⟨b, hb, _, e⟩ => (h.vlm k hk).2.2 b hb e.symm
theorem CqG.grw (h : CqG w X Mc base T bl pn vl ll M Pn C) {A : CBk → Prop} (hf : Fr (fun k => ∃ a, a.ok C.n ∧ A a ∧ k = bl a) w w') : Gr X Mc w X Mc w' :=
  ⟨hf.weak (fun k hk => by obtain ⟨a, ha, _, e⟩ := hk; exact e ▸ (h.own a ha).1), fun _ h => h, fun _ h => .inl h, fun _ h => .inl h⟩
/-- who is held has changed -/
theorem CqG.heldTo (h : CqG w X Mc base T bl pn vl ll M Pn C) (hf : Fr (fun k => ∃ a, a.ok C.n ∧ a = .Mh ∧ k = bl a) w w') {held' : Int → Bool} {m hn' : Nat} (hm : m ≤ hn') (ho : OwnM w' (bl .Mh) m (knG held')) : CqG w' X Mc base T bl pn vl ll M Pn ⟨C.n, C.nd, C.cnt, C.tab, held', hn'⟩ := by
  obtain ⟨m1, q1, h1⟩ := h.co.me
  obtain ⟨xs, h3⟩ := h.co.lg
  exact h.chg (fun a => a = .Mh) (by intro e; cases e) hf ⟨fun j hj => hf.cell (h.co.ra j hj) (h.off (a := .Va) trivial (by intro e; cases e)), fun j hj => hf.cell (h.co.rb j hj) (h.off (a := .Vb) trivial (by intro e; cases e)), fun j hj => (h.co.nm j hj).fr hf (h.off (a := .Tb j) hj (by intro e; cases e)) (h.off (a := .Mb j) hj (by intro e; cases e)), ⟨m1, q1, h1.fr hf (h.off (a := .Me) trivial (by intro e; cases e))⟩, fun j l hj hl e => (h.co.ed j l hj hl e).fr hf (h.off (a := .Ed j l) ⟨hj, hl, e⟩ (by intro e; cases e)), h.co.mw.fr hf (h.off (a := .Mw) trivial (by intro e; cases e)), h.co.mt.fr hf (h.off (a := .Mt) trivial (by intro e; cases e)), h.co.mo.fr hf (h.off (a := .Mo) trivial (by intro e; cases e)), ⟨m, hm, ho⟩, ⟨xs, hf.row h3 (fun k hk => h.offv hk)⟩⟩
/-- a table of names has changed -/
theorem CqG.named (h : CqG w X Mc base T bl pn vl ll M Pn C) {i : Nat} (hi : i < C.n) (hf : Fr (fun k => ∃ a, a.ok C.n ∧ (a = .Tb i ∨ a = .Mb i) ∧ k = bl a) w w') {cnt' : Int} {g' : Nat → Option Nm.RW} (hN : Nm.NmAt w' (bl (.Tb i)) ((i : Int) + 1) cnt' (bl (.Mb i)) g') : CqG w' X Mc base T bl pn vl ll M Pn ⟨C.n, C.nd, updN C.cnt i cnt', updN C.tab i g', C.held, C.hn⟩ := by
  obtain ⟨m1, q1, h1⟩ := h.co.me
  obtain ⟨m2, q2, h2⟩ := h.co.mh
  obtain ⟨xs, h3⟩ := h.co.lg
  refine h.chg (fun a => a = .Tb i ∨ a = .Mb i) (by rintro (e | e) <;> cases e) hf ⟨fun j hj => hf.cell (h.co.ra j hj) (h.off (a := .Va) trivial (by rintro (e | e) <;> cases e)), fun j hj => hf.cell (h.co.rb j hj) (h.off (a := .Vb) trivial (by rintro (e | e) <;> cases e)), fun j hj => ?_, ⟨m1, q1, h1.fr hf (h.off (a := .Me) trivial (by rintro (e | e) <;> cases e))⟩, fun j l hj hl e => (h.co.ed j l hj hl e).fr hf (h.off (a := .Ed j l) ⟨hj, hl, e⟩ (by rintro (e | e) <;> cases e)), h.co.mw.fr hf (h.off (a := .Mw) trivial (by rintro (e | e) <;> cases e)), h.co.mt.fr hf (h.off (a := .Mt) trivial (by rintro (e | e) <;> cases e)), h.co.mo.fr hf (h.off (a := .Mo) trivial (by rintro (e | e) <;> cases e)), ⟨m2, q2, h2.fr hf (h.off (a := .Mh) trivial (by rintro (e | e) <;> cases e))⟩, ⟨xs, hf.row h3 (fun k hk => h.offv hk)⟩⟩
  show Nm.NmAt w' (bl (.Tb j)) ((j : Int) + 1) (updN C.cnt i cnt' j) (bl (.Mb j)) (updN C.tab i g' j)
  by_cases e : j = i
  · subst e
    rw [updN_self, updN_self]
    exact hN
  · rw [updN_ne _ _ e, updN_ne _ _ e]
    exact (h.co.nm j hj).fr hf (h.off (a := .Tb j) hj (by rintro (e2 | e2); (· injection e2 with e2; exact e e2); (· cases e2))) (h.off (a := .Mb j) hj (by rintro (e2 | e2); (· cases e2); (· injection e2 with e2; exact e e2)))
set_option maxRecDepth 100000 in
set_option maxHeartbeats 4000000 in
theorem cspawn_any (h : CqG w X Mc base T bl pn vl ll M Pn C) {i : Nat} (hi : i < C.n) (nm : ByteArray) (st : List (Int × Int)) (r : RunS) (S : Nat → Prop) (As : Option Addr) (cs : Nat) (hmk : makeN nm st = some r) (hro : RunOk r) (hst : StAt w S As cs st) (hhas : (C.nd i).has ((C.nd i).id * 1000 + (C.nd i).spawned + 1) = false) (hfull : (C.nd i).acts.length < 60) (hsp9 : (C.nd i).spawned < 999) (hT : pot (C.nd i) + 201 ≤ T) (hT2 : T ≤ 1000000000000) (hhn : C.hn ≤ 1000000) :
    Calls Tryz.prog 11 #[.pointer (some ⟨bl .P, 0, none⟩), .int .i64 ((i : Int) + 1), .string nm, .slice As st.length cs] w (CqPost X Mc base T bl pn ll ⟨C.n, updN C.nd i (spawnN (C.nd i) nm st).1, C.cnt, C.tab, fun x => C.held x || x == (C.nd i).id * 1000 + (C.nd i).spawned + 1, C.hn + 1⟩ w (.tuple #[.int .i64 ((C.nd i).id * 1000 + (C.nd i).spawned + 1), .int .i64 0])) := by
  have h8 := h.n8
  obtain ⟨ca, c0⟩ := h.cp.c0
  have HAT := Lib.hid (at_any (bl .P) C.n (bl .Va) ca i (pn i) ((i : Int) + 1) w c0 hi (by omega) rfl (h.co.ra i hi))
  have HTH := Lib.hid (there_any (bl .P) C.n ca _ ((i : Int) + 1) w c0 (by omega) (by omega))
  have hsn := spawnN_ok hmk hhas hfull hsp9
  have hid := h.ids i hi
  have hspw := spawn_any nm st r S As cs (h.nd i hi) hmk hro hst hhas hfull hsp9 hT hT2
  obtain ⟨N', hN'⟩ : ∃ N', (spawnN (C.nd i) nm st).1 = N' := ⟨_, rfl⟩
  have hid' : N'.id = (i : Int) + 1 := by rw [← hN', hsn]; exact hid
  have e2 : (spawnN (C.nd i) nm st).2.1 = (C.nd i).id * 1000 + (C.nd i).spawned + 1 := by rw [hsn]
  have e3 : (spawnN (C.nd i) nm st).2.2 = 0 := by rw [hsn]
  rw [hN', e2, e3] at hspw
  rw [hN']
  obtain ⟨rf, hrf⟩ : ∃ rf, (C.nd i).id * 1000 + (C.nd i).spawned + 1 = rf := ⟨_, rfl⟩
  have hwr : Wf rf := Wf.of (by omega) (by omega)
  rw [hrf] at hspw ⊢
  have HWR := Lib.hid hwr
  have HSP := Lib.hid hspw
  have HID := Lib.hid hid'
  have HH := Lib.hid h
  clear h c0 hsn hspw hid hid' hN' e2 e3 hrf hwr hst hmk hro hhas hfull hsp9 hT hT2
  go_enter Tryz.func11, Tryz.ntmps11
  go_wp2_with fail
  refine HTH.out.mono ?_
  rintro e w1 ⟨rfl, rfl⟩
  go_wp2_with fail
  refine HAT.out.mono ?_
  rintro e w1 ⟨rfl, rfl⟩
  go_wp2_with fail
  refine HSP.out.mono ?_
  rintro e w2 ⟨P', -, rfl, X2, M2, hg, hN⟩
  have HC := Lib.hid (HH.out.node hi hg hN (Nat.le_refl _) HID.out)
  have HG := Lib.hid (Gr.cl HH.out hi hg)
  have c7 := HC.out.cp.c7
  obtain ⟨m, hm, hmh⟩ := HC.out.co.mh
  have hm9 : m < maxLen := by
    have : m ≤ C.hn := hm
    unfold maxLen
    omega
  obtain ⟨w3, hrun, ho3, hg3⟩ := OwnM.store und_mib hmh hm9 rf (.bool true) HWR.out
  rw [knG_put] at ho3
  have HF3 := Lib.hid (show Fr (fun k => ∃ a : CBk, a.ok C.n ∧ a = .Mh ∧ k = bl a) w2 w3 from Fr.of_grown hg3 (fun b hb => .inl ⟨.Mh, trivial, rfl, by injection hb with hb; exact hb.symm⟩))
  have HO3 := Lib.hid ho3
  have HM := Lib.hid (show (if (knG C.held rf).isSome = true then m else m + 1) ≤ C.hn + 1 by
    have : m ≤ C.hn := hm
    split <;> omega)
  clear hg hN HSP HTH HAT hmh ho3 hg3 hm
  go_wp2_with fail
  refine bodyPost_ret (results_two Tryz.results11 _ _) rfl ⟨rfl, X2, _, HG.out.trans (HC.out.grw HF3.out), ⟨vl, _, _, HC.out.heldTo HF3.out HM.out HO3.out⟩⟩
set_option maxRecDepth 100000 in
set_option maxHeartbeats 4000000 in
theorem cfree_any (h : CqG w X Mc base T bl pn vl ll M Pn C) (ref : Int) (hw : Wf ref) :
    Calls Tryz.prog 14 #[.pointer (some ⟨bl .P, 0, none⟩), .int .i64 ref] w (CqPost X Mc base T bl pn ll ⟨C.n, C.nd, C.cnt, C.tab, fun x => C.held x && !(x == ref), C.hn⟩ w (.tuple #[])) := by
  have HH := Lib.hid h
  have c7 := h.cp.c7
  obtain ⟨m, hm, hmh⟩ := h.co.mh
  obtain ⟨w3, hrun, ho3, hg3⟩ := OwnM.drop und_mib hmh ref hw 0
  have HF3 := Lib.hid (show Fr (fun k => ∃ a : CBk, a.ok C.n ∧ a = .Mh ∧ k = bl a) w w3 from Fr.of_grown hg3 (fun b hb => .inl ⟨.Mh, trivial, rfl, by injection hb with hb; exact hb.symm⟩))
  have HO3 := Lib.hid (ho3.congr (g' := knG fun x => C.held x && !(x == ref)) (fun x _ => by
    unfold knG
    by_cases e : x = ref
    · subst e; simp
    · rw [if_neg e]
      have : (x == ref) = false := by simpa using e
      simp [this]))
  have HM := Lib.hid (show (if (knG C.held ref).isSome = true then m - 1 else m) ≤ C.hn by
    have : m ≤ C.hn := hm
    split <;> omega)
  clear h hmh ho3 hg3 hm
  go_enter Tryz.func14, Tryz.ntmps14
  go_wp2_with fail
  exact bodyPost_end (results_none rfl _ _ _) rfl ⟨rfl, X, Mc, HH.out.grw HF3.out, ⟨vl, _, _, HH.out.heldTo HF3.out HM.out HO3.out⟩⟩
set_option maxRecDepth 100000 in
set_option maxHeartbeats 4000000 in
theorem cname_any (h : CqG w X Mc base T bl pn vl ll M Pn C) {i : Nat} (hi : i < C.n) (ref : Int) (hr : 1 ≤ ref) (hc0 : 0 ≤ C.cnt i) (hc : C.cnt i < 1099511627776) :
    Calls Tryz.prog 13 #[.pointer (some ⟨bl .P, 0, none⟩), .int .i64 ((i : Int) + 1), .string ⟨#[111, 110, 101]⟩, .int .i64 ref] w (CqPost X Mc base T bl pn ll ⟨C.n, C.nd, updN C.cnt i (C.cnt i + 1), updN C.tab i (Nm.updT (C.tab i) 3 ⟨ref, C.cnt i + 1, (i : Int) + 1⟩), C.held, C.hn⟩ w (.int .i64 0)) := by
  have h8 := h.n8
  obtain ⟨ca, c0⟩ := h.cp.c0
  obtain ⟨cb, c1⟩ := h.cp.c1
  have cr := h.co.rb i hi
  have HTH := Lib.hid (there_any (bl .P) C.n ca _ ((i : Int) + 1) w c0 (by omega) (by omega))
  have HSET := Lib.hid (show Calls Tryz.prog 44 #[.pointer (some ⟨bl (.Tb i), 0, none⟩), .string ⟨#[111, 110, 101]⟩, .int .i64 ref] w _ from Nm.set_any (bl (.Tb i)) (bl (.Mb i)) _ _ ref (C.tab i) w (h.co.nm i hi) hc0 hc hr)
  have HH := Lib.hid h
  have hr0 : (ref == 0) = false := by simp only [beq_eq_false_iff_ne, ne_eq]; omega
  have i3 : ((i : Int) + 1 - 1).toNat = i := by omega
  have i5 : (0 : Int) ≤ (i : Int) + 1 - 1 := by omega
  have i6 : (i : Int) + 1 - 1 < (C.n : Int) := by omega
  clear h
  go_enter Tryz.func13, Tryz.ntmps13
  go_wp2_with fail
  refine HTH.out.mono ?_
  rintro e w1 ⟨rfl, rfl⟩
  go_wp2_with fail
  refine HSET.out.mono ?_
  rintro e w2 ⟨rfl, hN, hf⟩
  have HN := Lib.hid hN
  have HF := Lib.hid (show Fr (fun k => ∃ a : CBk, a.ok C.n ∧ (a = .Tb i ∨ a = .Mb i) ∧ k = bl a) _ w2 from hf.weak (fun k hk => by
    rcases hk with e | e
    · exact ⟨.Tb i, hi, .inl rfl, e⟩
    · exact ⟨.Mb i, hi, .inr rfl, e⟩))
  clear hN hf HSET
  go_wp2_with fail
  go_ret
  exact ⟨rfl, X, Mc, HH.out.grw HF.out, ⟨vl, _, _, HH.out.named hi HF.out HN.out⟩⟩
end
end Go.Proofs.YthgbcgphkddmgaaGreat
namespace Go.Proofs.YthgbcgphkddmgaaGreat
open Go.RowKit
set_option linter.unusedVariables false
set_option linter.unusedSimpArgs false
/-- numbers that lie in blocks of B -/
def NumIn (w : World) (B : Nat → Prop) (v : Value) (l : List Int) : Prop := ∃ A c, v = .slice A l.length c ∧ l.length ≤ c ∧ c ≤ 9223372036854775807 ∧ (0 < l.length → ∃ b off, A = some ⟨b, off, none⟩ ∧ B b ∧ ∀ j, j < l.length → w.cell? ⟨b, off + j, none⟩ = some (.int .i64 (lst l j)))
section
variable {w w' : World} {B B' S : Nat → Prop} {v : Value} {A : Option Addr} {c base : Nat}
theorem NumIn.fr {l : List Int} (h : NumIn w B v l) (hf : Fr S w w') (hS : ∀ b, B b → ¬ S b) (hB : ∀ b, B b → B' b) : NumIn w' B' v l := by
  obtain ⟨A, c, e, h1, h2, h3⟩ := h
  refine ⟨A, c, e, h1, h2, fun h0 => ?_⟩
  obtain ⟨b, off, e2, hb, hc⟩ := h3 h0
  exact ⟨b, off, e2, hB b hb, fun j hj => hf.cell (hc j hj) (hS b hb)⟩
end
theorem numIn_nil (w : World) (B : Nat → Prop) : NumIn w B (.slice none 0 0) [] := ⟨none, 0, rfl, Nat.le_refl _, by omega, fun h => by simp at h⟩
end Go.Proofs.YthgbcgphkddmgaaGreat
namespace Go.Proofs.YthgbcgphkddmgaaGreat
open Go.RowKit
set_option linter.unusedVariables false
set_option linter.unusedSimpArgs false
def CellsN (w : World) (q : Nat) (cs : List Value) : Prop := (∀ j u, cs[j]? = some u → w.cell? ⟨q, j, none⟩ = some u) ∧ (∀ o, w.frozen? ⟨q, o, none⟩ = false) ∧ q < w.heap.size
theorem CellsN.fr {w w' : World} {D : Nat → Prop} {q : Nat} {cs : List Value} (h : CellsN w q cs) (hf : Fr D w w') (hq : ¬ D q) : CellsN w' q cs :=
  ⟨fun j u hu => hf.cell (h.1 j u hu) hq, fun o => (hf.frozen h.2.2 hq).trans (h.2.1 o), Nat.lt_of_lt_of_le h.2.2 hf.size⟩
theorem cells8_of {w : World} {q : Nat} {c0 c1 c2 c3 c4 c5 c6 c7 : Value} (h0 : w.cell? ⟨q, 0, none⟩ = some c0) (h1 : w.cell? ⟨q, 1, none⟩ = some c1) (h2 : w.cell? ⟨q, 2, none⟩ = some c2) (h3 : w.cell? ⟨q, 3, none⟩ = some c3) (h4 : w.cell? ⟨q, 4, none⟩ = some c4) (h5 : w.cell? ⟨q, 5, none⟩ = some c5) (h6 : w.cell? ⟨q, 6, none⟩ = some c6) (h7 : w.cell? ⟨q, 7, none⟩ = some c7) (hf : ∀ o, w.frozen? ⟨q, o, none⟩ = false) : CellsN w q [c0, c1, c2, c3, c4, c5, c6, c7] := ⟨fun j u hu => by
  match j, hu with
  | 0, hu => injection hu with hu; subst hu; exact h0
  | 1, hu => injection hu with hu; subst hu; exact h1
  | 2, hu => injection hu with hu; subst hu; exact h2
  | 3, hu => injection hu with hu; subst hu; exact h3
  | 4, hu => injection hu with hu; subst hu; exact h4
  | 5, hu => injection hu with hu; subst hu; exact h5
  | 6, hu => injection hu with hu; subst hu; exact h6
  | 7, hu => injection hu with hu; subst hu; exact h7, hf, World.block_lt_of_cell? w _ h0⟩
theorem cellsN_new (w : World) (cs : List Value) (t : TypeId) : CellsN (w.alloc (.cells cs.toArray t)) w.heap.size cs := ⟨fun j u hu => by
  have h := cell_newL w cs t _ rfl j u hu
  rw [Addr.add_lit, Nat.zero_add] at h
  exact h, fun o => by simp [go_sem], by simp⟩
theorem numIn_rd {w : World} {B : Nat → Prop} {v : Value} {l : List Int} (h : NumIn w B v l) : ∃ A c, v = .slice A l.length c ∧ l.length ≤ c ∧ c ≤ 9223372036854775807 ∧ (A = none → l.length = 0) ∧ Rd w 1 (tmC (lst l)) A l.length := by
  obtain ⟨A, c, e, h1, h2, h3⟩ := h
  refine ⟨A, c, e, h1, h2, fun hA => ?_, fun h0 => ?_⟩
  · by_cases h0 : 0 < l.length
    · obtain ⟨b, off, e2, _⟩ := h3 h0
      rw [hA] at e2
      cases e2
    · omega
  obtain ⟨b, off, e2, hb, hc⟩ := h3 h0
  refine ⟨b, off, e2, World.block_lt_of_cell? w _ (hc 0 h0), fun k hk j u hu => ?_⟩
  have hj : j < 1 := (List.getElem?_eq_some_iff.1 hu).1
  obtain rfl : j = 0 := by omega
  have : u = .int .i64 (lst l k) := by simpa [tmC] using hu.symm
  subst this
  rw [Nat.mul_one, Nat.add_zero]
  exact hc k hk
end Go.Proofs.YthgbcgphkddmgaaGreat
