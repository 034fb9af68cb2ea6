/- A quiet cluster: a turn of a node. A quiet cluster: Spawn, Free, Name. -/
import Derived.Test.YthgbcgphkddmgaaGreatZAW
import Derived.Maps.AppendAt
namespace Go.Proofs.YthgbcgphkddmgaaGreat
open Go.RowKit Go.Maps
set_option linter.unusedVariables false
set_option linter.unusedSimpArgs false
theorem infoEv : (Tryz.prog.info? 106).map (fun i => (i.zero, i.size, i.bytes)) = some (some (.agg #[.int .i64 0, .int .i64 0, .int .i64 0, .int .i64 0]), 4, 32) := by kernel_rfl
section
variable {w w' : World} {X X' Mc Mc' : Nat → Prop} {base T : Nat} {bl : CBk → Nat} {pn : Nat → Nat} {vl : Value} {ll : Nat} {M : Nat → Nat → Prop} {Pn : Nat → Int → Nat} {C : CqS}
/-- an event has been logged -/
theorem CqG.logged (h : CqG w X Mc base T bl pn vl ll M Pn C) {w2 : World} {v' : Value} {xs : List Value} (hf : Fr (fun k => vl.ownBlock = some k) w w2) (hr : w2.ownsRow base 106 4 v' (ll + 1) xs) (hat : v'.ownBlock = vl.ownBlock ∨ ∃ q, v'.ownBlock = some q ∧ w.heap.size ≤ q) :
    Gr X Mc w (fun k => X k ∨ v'.ownBlock = some k) (fun k => Mc k ∨ v'.ownBlock = some k) (w2.setCell ⟨bl .P, 8, none⟩ v') ∧ CqG (w2.setCell ⟨bl .P, 8, none⟩ v') (fun k => X k ∨ v'.ownBlock = some k) (fun k => Mc k ∨ v'.ownBlock = some k) base T bl pn v' (ll + 1) M Pn C := by
  have hPok : (CBk.P).ok C.n := trivial
  have hvP : ¬ vl.ownBlock = some (bl .P) := fun e => (h.vlm _ e).2.2 .P trivial rfl
  have hf3 : Fr (fun k => k = bl .P ∨ vl.ownBlock = some k) w (w2.setCell ⟨bl .P, 8, none⟩ v') := (hf.weak (fun k hk => .inr hk)).set (.inl (.inl rfl)) _
  have hbl : ∀ a, a.ok C.n → bl a < w.heap.size := fun a ha => h.xlt _ (h.mx _ (h.own a ha).1).1
  have hml : ∀ i, i < C.n → ∀ k, M i k → k < w.heap.size := fun i hi k hk => h.xlt _ (h.mx _ (h.sub i hi k hk)).1
  have hv : ∀ k, v'.ownBlock = some k → vl.ownBlock = some k ∨ w.heap.size ≤ k := fun k hk => by
    rcases hat with e | ⟨q, e, hq⟩
    · exact .inl (e.symm.trans hk)
    · rw [e] at hk
      injection hk with hk
      exact .inr (hk ▸ hq)
  have hvlt : ∀ k, v'.ownBlock = some k → base ≤ k ∧ k < (w2.setCell ⟨bl .P, 8, none⟩ v').heap.size := fun k hk => by
    have := hr.lt k hk
    simp
    omega
  have hDm : ∀ k, (k = bl .P ∨ vl.ownBlock = some k) → Mc k := fun k hk => by
    rcases hk with e | e
    · subst e; exact (h.own .P trivial).1
    · exact (h.vlm k e).1
  refine ⟨⟨hf3.weak hDm, fun k hk => .inl hk, fun k hk => ?_, fun k hk => ?_⟩, ?_⟩
  · rcases hk with hk | hk
    · exact .inl hk
    · rcases hv k hk with e | e
      · exact .inl (h.mx _ (h.vlm k e).1).1
      · exact .inr e
  · rcases hk with hk | hk
    · exact .inl hk
    · rcases hv k hk with e | e
      · exact .inl (h.vlm k e).1
      · exact .inr e
  obtain ⟨m1, q1, h1⟩ := h.co.me
  obtain ⟨m2, q2, h2⟩ := h.co.mh
  have hn : ∀ a, a.ok C.n → a ≠ .P → ¬ (bl a = bl .P ∨ vl.ownBlock = some (bl a)) := fun a ha e hk => by
    rcases hk with hk | hk
    · exact h.ne ha hPok e hk
    · exact (h.vlm _ hk).2.2 a ha rfl
  obtain ⟨ca, p0⟩ := h.cp.c0
  obtain ⟨cb, p1⟩ := h.cp.c1
  have hP2 : ∀ o u, w.cell? ⟨bl .P, o, none⟩ = some u → w2.cell? ⟨bl .P, o, none⟩ = some u := fun o u hu => hf.cell hu hvP
  refine ⟨h.n8, h.inj, fun a ha => ⟨.inl (h.own a ha).1, (h.own a ha).2⟩, fun k hk => ⟨.inr hk, fun i hi hm => ?_, fun a ha e => ?_⟩, fun i hi k hk => .inl (h.sub i hi k hk), fun k hk => ?_, h.dis, fun i hi => ?_, h.ids, ?_, ?_⟩
  · rcases hv k hk with e | e
    · exact (h.vlm k e).2.1 i hi hm
    · have := hml i hi k hm; omega
  · rcases hv k hk with e2 | e2
    · exact (h.vlm k e2).2.2 a ha e
    · have := hbl a ha; omega
  · rcases hk with hk | hk
    · exact ⟨.inl (h.mx k hk).1, (h.mx k hk).2⟩
    · exact ⟨.inr hk, (hvlt k hk).1⟩
  · refine (h.nd i hi).fr hf3 (fun k hk => h.mx k (hDm k hk)) (fun k hk => .inl hk) (fun k hk => ?_) (fun k hm hk => ?_)
    · rcases hk with hk | hk
      · exact .inl hk
      · rcases hv k hk with e | e
        · exact .inl (h.mx _ (h.vlm k e).1).1
        · exact .inr ⟨e, (hvlt k hk).2⟩
    · rcases hk with e | e
      · subst e; exact (h.own .P trivial).2 i hi hm
      · exact (h.vlm k e).2.1 i hi hm
  · exact ⟨⟨ca, set_other (hP2 _ _ p0) (by decide)⟩, ⟨cb, set_other (hP2 _ _ p1) (by decide)⟩, set_other (hP2 _ _ h.cp.c2) (by decide), set_other (hP2 _ _ h.cp.c3) (by decide), set_other (hP2 _ _ h.cp.c4) (by decide), set_other (hP2 _ _ h.cp.c5) (by decide), set_other (hP2 _ _ h.cp.c6) (by decide), set_other (hP2 _ _ h.cp.c7) (by decide), set_this (hP2 _ _ h.cp.c8), set_fz (fun o => (hf.frozen (hbl .P trivial) hvP).trans (h.cp.fz o))⟩
  · exact ⟨fun j hj => hf3.cell (h.co.ra j hj) (hn .Va trivial (by intro e; cases e)), fun j hj => hf3.cell (h.co.rb j hj) (hn .Vb trivial (by intro e; cases e)), fun j hj => (h.co.nm j hj).fr hf3 (hn (.Tb j) hj (by intro e; cases e)) (hn (.Mb j) hj (by intro e; cases e)), ⟨m1, q1, h1.fr hf3 (hn .Me trivial (by intro e; cases e))⟩, fun j l hj hl e => (h.co.ed j l hj hl e).fr hf3 (hn (.Ed j l) ⟨hj, hl, e⟩ (by intro e; cases e)), h.co.mw.fr hf3 (hn .Mw trivial (by intro e; cases e)), h.co.mt.fr hf3 (hn .Mt trivial (by intro e; cases e)), h.co.mo.fr hf3 (hn .Mo trivial (by intro e; cases e)), ⟨m2, q2, h2.fr hf3 (hn .Mh trivial (by intro e; cases e))⟩, ⟨xs, (Fr.setAt (Fr.refl (fun k => k = bl .P) w2) v').row hr (fun k hk e => by
      rcases hv k hk with e2 | e2
      · exact (h.vlm k e2).2.2 .P trivial e.symm
      · have := hbl .P trivial; omega)⟩⟩
def CTurnPost (X Mc : Nat → Prop) (base T : Nat) (bl : CBk → Nat) (pn : Nat → Nat) (ll : Nat) (C : CqS) (i : Nat) (w : World) (e : Ending) (w' : World) : Prop :=
  (∃ r, e = .returned (.tuple #[.int .i64 r, .int .i64 (turnN (C.nd i)).2.2])) ∧ ∃ X' Mc' l', l' ≤ ll + 1 ∧ Gr X Mc w X' Mc' w' ∧ CqAt w' X' Mc' base (T + 60000000) bl pn l' { C with nd := updN C.nd i (turnN (C.nd i)).1 }
end
end Go.Proofs.YthgbcgphkddmgaaGreat
namespace Go.Proofs.YthgbcgphkddmgaaGreat
open Go.RowKit Go.Maps
set_option linter.unusedVariables false
set_option linter.unusedSimpArgs false
theorem und_mib : Tryz.prog.underlying 84 = some (.map 3 4) := Tryz.underlying84
section
variable {w w' : World} {X X' Mc Mc' : Nat → Prop} {base T : Nat} {bl : CBk → Nat} {pn : Nat → Nat} {vl : Value} {ll : Nat} {M : Nat → Nat → Prop} {Pn : Nat → Int → Nat} {C : CqS}
/-- the cluster wrote some of its own blocks -/
theorem CqG.chg (h : CqG w X Mc base T bl pn vl ll M Pn C) (A : CBk → Prop) (hA : ¬ A .P) (hf : Fr (fun k => ∃ a, a.ok C.n ∧ A a ∧ k = bl a) w w') {cnt' : Nat → Int} {tab' : Nat → Nat → Option Nm.RW} {held' : Int → Bool} {hn' : Nat} (hco : CqO w' base bl pn ⟨C.n, C.nd, cnt', tab', held', hn'⟩ vl ll) : CqG w' X Mc base T bl pn vl ll M Pn ⟨C.n, C.nd, cnt', tab', held', hn'⟩ :=
  ⟨h.n8, h.inj, h.own, h.vlm, h.sub, h.mx, h.dis, h.nodes hf (fun k hk => by obtain ⟨a, ha, _, e⟩ := hk; exact .inl ⟨a, ha, e⟩), h.ids, h.cp.fr hf (fun hk => by obtain ⟨a, ha, hA2, e⟩ := hk; exact hA ((h.inj .P a trivial ha e) ▸ hA2)), hco⟩
theorem CqG.off (h : CqG w X Mc base T bl pn vl ll M Pn C) {A : CBk → Prop} {a : CBk} (ha : a.ok C.n) (hn : ¬ A a) : ¬ ∃ b, b.ok C.n ∧ A b ∧ bl a = bl b := fun ⟨b, hb, hA, e⟩ => hn ((h.inj a b ha hb e) ▸ hA)
theorem CqG.offv (h : CqG w X Mc base T bl pn vl ll M Pn C) {A : CBk → Prop} {k : Nat} (hk : vl.ownBlock = some k) : ¬ ∃ b, b.ok C.n ∧ A b ∧ k = bl b := fun ⟨b, hb, _, e⟩ => (h.vlm k hk).2.2 b hb e.symm
theorem CqG.grw (h : CqG w X Mc base T bl pn vl ll M Pn C) {A : CBk → Prop} (hf : Fr (fun k => ∃ a, a.ok C.n ∧ A a ∧ k = bl a) w w') : Gr X Mc w X Mc w' :=
  ⟨hf.weak (fun k hk => by obtain ⟨a, ha, _, e⟩ := hk; exact e ▸ (h.own a ha).1), fun _ h => h, fun _ h => .inl h, fun _ h => .inl h⟩
/-- who is held has changed -/
theorem CqG.heldTo (h : CqG w X Mc base T bl pn vl ll M Pn C) (hf : Fr (fun k => ∃ a, a.ok C.n ∧ a = .Mh ∧ k = bl a) w w') {held' : Int → Bool} {m hn' : Nat} (hm : m ≤ hn') (ho : OwnM w' (bl .Mh) m (knG held')) : CqG w' X Mc base T bl pn vl ll M Pn ⟨C.n, C.nd, C.cnt, C.tab, held', hn'⟩ := by
  obtain ⟨m1, q1, h1⟩ := h.co.me
  obtain ⟨xs, h3⟩ := h.co.lg
  exact h.chg (fun a => a = .Mh) (by intro e; cases e) hf ⟨fun j hj => hf.cell (h.co.ra j hj) (h.off (a := .Va) trivial (by intro e; cases e)), fun j hj => hf.cell (h.co.rb j hj) (h.off (a := .Vb) trivial (by intro e; cases e)), fun j hj => (h.co.nm j hj).fr hf (h.off (a := .Tb j) hj (by intro e; cases e)) (h.off (a := .Mb j) hj (by intro e; cases e)), ⟨m1, q1, h1.fr hf (h.off (a := .Me) trivial (by intro e; cases e))⟩, fun j l hj hl e => (h.co.ed j l hj hl e).fr hf (h.off (a := .Ed j l) ⟨hj, hl, e⟩ (by intro e; cases e)), h.co.mw.fr hf (h.off (a := .Mw) trivial (by intro e; cases e)), h.co.mt.fr hf (h.off (a := .Mt) trivial (by intro e; cases e)), h.co.mo.fr hf (h.off (a := .Mo) trivial (by intro e; cases e)), ⟨m, hm, ho⟩, ⟨xs, hf.row h3 (fun k hk => h.offv hk)⟩⟩
set_option maxRecDepth 100000 in
set_option maxHeartbeats 4000000 in
theorem cspawn_any (h : CqG w X Mc base T bl pn vl ll M Pn C) {i : Nat} (hi : i < C.n) (nm : ByteArray) (st : List (Int × Int)) (r : RunS) (S : Nat → Prop) (As : Option Addr) (cs : Nat) (hmk : makeN nm st = some r) (hro : RunOk r) (hst : StAt w S As cs st) (hhas : (C.nd i).has ((C.nd i).id * 1000 + (C.nd i).spawned + 1) = false) (hfull : (C.nd i).acts.length < 60) (hsp9 : (C.nd i).spawned < 999) (hT : pot (C.nd i) + 201 ≤ T) (hT2 : T ≤ 1000000000000) (hhn : C.hn ≤ 1000000) :
    Calls Tryz.prog 11 #[.pointer (some ⟨bl .P, 0, none⟩), .int .i64 ((i : Int) + 1), .string nm, .slice As st.length cs] w (CqPost X Mc base T bl pn ll ⟨C.n, updN C.nd i (spawnN (C.nd i) nm st).1, C.cnt, C.tab, fun x => C.held x || x == (C.nd i).id * 1000 + (C.nd i).spawned + 1, C.hn + 1⟩ w (.tuple #[.int .i64 ((C.nd i).id * 1000 + (C.nd i).spawned + 1), .int .i64 0])) := by
  have h8 := h.n8
  obtain ⟨ca, c0⟩ := h.cp.c0
  have HAT := Lib.hid (at_any (bl .P) C.n (bl .Va) ca i (pn i) ((i : Int) + 1) w c0 hi (by omega) rfl (h.co.ra i hi))
  have HTH := Lib.hid (there_any (bl .P) C.n ca _ ((i : Int) + 1) w c0 (by omega) (by omega))
  have hsn := spawnN_ok hmk hhas hfull hsp9
  have hid := h.ids i hi
  have hspw := spawn_any nm st r S As cs (h.nd i hi) hmk hro hst hhas hfull hsp9 hT hT2
  obtain ⟨N', hN'⟩ : ∃ N', (spawnN (C.nd i) nm st).1 = N' := ⟨_, rfl⟩
  have hid' : N'.id = (i : Int) + 1 := by rw [← hN', hsn]; exact hid
  have e2 : (spawnN (C.nd i) nm st).2.1 = (C.nd i).id * 1000 + (C.nd i).spawned + 1 := by rw [hsn]
  have e3 : (spawnN (C.nd i) nm st).2.2 = 0 := by rw [hsn]
  rw [hN', e2, e3] at hspw
  rw [hN']
  obtain ⟨rf, hrf⟩ : ∃ rf, (C.nd i).id * 1000 + (C.nd i).spawned + 1 = rf := ⟨_, rfl⟩
  have hwr : Wf rf := Wf.of (by omega) (by omega)
  rw [hrf] at hspw ⊢
  have HWR := Lib.hid hwr
  have HSP := Lib.hid hspw
  have HID := Lib.hid hid'
  have HH := Lib.hid h
  clear h c0 hsn hspw hid hid' hN' e2 e3 hrf hwr hst hmk hro hhas hfull hsp9 hT hT2
  go_enter Tryz.func11, Tryz.ntmps11
  go_wp2_with fail
  refine HTH.out.mono ?_
  rintro e w1 ⟨rfl, rfl⟩
  go_wp2_with fail
  refine HAT.out.mono ?_
  rintro e w1 ⟨rfl, rfl⟩
  go_wp2_with fail
  refine HSP.out.mono ?_
  rintro e w2 ⟨P', -, rfl, X2, M2, hg, hN⟩
  have HC := Lib.hid (HH.out.node hi hg hN (Nat.le_refl _) HID.out)
  have HG := Lib.hid (Gr.cl HH.out hi hg)
  have c7 := HC.out.cp.c7
  obtain ⟨m, hm, hmh⟩ := HC.out.co.mh
  have hm9 : m < maxLen := by
    have : m ≤ C.hn := hm
    unfold maxLen
    omega
  obtain ⟨w3, hrun, ho3, hg3⟩ := OwnM.store und_mib hmh hm9 rf (.bool true) HWR.out
  rw [knG_put] at ho3
  have HF3 := Lib.hid (show Fr (fun k => ∃ a : CBk, a.ok C.n ∧ a = .Mh ∧ k = bl a) w2 w3 from Fr.of_grown hg3 (fun b hb => .inl ⟨.Mh, trivial, rfl, by injection hb with hb; exact hb.symm⟩))
  have HO3 := Lib.hid ho3
  have HM := Lib.hid (show (if (knG C.held rf).isSome = true then m else m + 1) ≤ C.hn + 1 by
    have : m ≤ C.hn := hm
    split <;> omega)
  clear hg hN HSP HTH HAT hmh ho3 hg3 hm
  go_wp2_with fail
  refine bodyPost_ret (results_two Tryz.results11 _ _) rfl ⟨rfl, X2, _, HG.out.trans (HC.out.grw HF3.out), ⟨vl, _, _, HC.out.heldTo HF3.out HM.out HO3.out⟩⟩
end
end Go.Proofs.YthgbcgphkddmgaaGreat
