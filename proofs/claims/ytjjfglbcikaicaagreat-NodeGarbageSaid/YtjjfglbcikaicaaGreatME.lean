/- Sets of references: add. copies.Saved without inputs, a diary's Save, addSaved; box.Again; runnable. A diary's Save, addSaved; box.Again; runnable. An actor waits. How a node lies in memory: the node whole. Stores into a node. A node's actors: one turned, one more, one less. Rows of links as lists: Watch, Link, Linked, Gone, Add, None. Rows of links stay right; Add, None, change. A node as one: what its methods' walks need. What a runner keeps, and what it puts out. -/
import Derived.Test.YtjjfglbcikaicaaGreatMD
import Derived.Test.YtjjfglbcikaicaaGreatMB
import Derived.Deep.DeepCutAuto
import Derived.Deep.CondSized
namespace Go.Proofs.YtjjfglbcikaicaaGreat
open Go.RowKit Go.Maps
set_option linter.unusedVariables false
set_option linter.unusedSimpArgs false
theorem und_refs : Tryz.prog.underlying 108 = some (.map 3 4) := Tryz.underlying108
def RaddOk (t : VT) : Prop := ∀ (cs : List Value) (S : Nat → Prop) (kb n : Nat) (p : Int → Bool) (w : World), t.isV w S cs → t.wf → t.many ≤ 4194304 → (∀ k, S k → k ≠ kb) → OwnM w kb n (knG p) → n + t.many ≤ 1000000000000 →
  Calls Tryz.prog 45 #[.map (some kb), .agg cs.toArray] w fun e w' => e = .returned (.tuple #[]) ∧ Fr (fun k => k = kb) w w' ∧ ∃ n', n' ≤ n + t.many ∧ OwnM w' kb n' (knG fun x => p x || refsV t x)
theorem knG_put (p : Int → Bool) (m : Int) : (fun y => if y = m then some (Value.bool true) else knG p y) = knG (fun x => p x || x == m) := by
  funext y
  unfold knG
  by_cases e : y = m
  · subst e; simp
  · rw [if_neg e]
    have : (y == m) = false := by simpa using e
    simp [this]
theorem anyOf_up (p : Nat → Bool) (n : Nat) : anyOf p (n + 1) = (anyOf p n || p n) := by
  rw [Bool.eq_iff_iff, anyOf_true, Bool.or_eq_true, anyOf_true]
  constructor
  · rintro ⟨k, hk, h⟩
    by_cases e : k = n
    · subst e; exact .inr h
    · exact .inl ⟨k, by omega, h⟩
  · rintro (⟨k, hk, h⟩ | h)
    · exact ⟨k, by omega, h⟩
    · exact ⟨n, by omega, h⟩
theorem anyOf_nil (p : Nat → Bool) : anyOf p 0 = false := by
  rcases h : anyOf p 0 with _ | _
  · rfl
  · obtain ⟨k, hk, _⟩ := anyOf_true.1 h; omega
set_option maxRecDepth 100000 in
set_option maxHeartbeats 4000000 in
theorem radd_any : ∀ t : VT, RaddOk t := by
  intro t
  induction t with
  | none => intro cs S kb n p w h; exact h.elim
  | node k m s na arg ih =>
    intro cs S kb n p w h hwf hm hS ho hn
    have HV := Lib.hid h
    have IH := Lib.hid ih
    have HS := Lib.hid hS
    have HWF := Lib.hid hwf
    obtain ⟨A, c, rfl, hnc, hcm, hA, _⟩ := h
    have hkb := ho.lt
    have hna : na ≤ 4194304 := by
      by_cases h0 : 0 < na
      · obtain ⟨b, off, _, _, _, C, hC⟩ := isV_arg HV.out h0
        have h1 : na ≤ sumTo (fun i => (arg i).many) na := len_sumTo fun i hi => isV_many (hC i hi).1
        simp only [VT.many] at hm
        omega
      · omega
    have HN := Lib.hid (show n + (1 + sumTo (fun i => (arg i).many) na) ≤ 1000000000000 from hn)
    have hn9 : n < 1000000000000 := by have := HN.out; omega
    have HM := Lib.hid (show 1 + sumTo (fun i => (arg i).many) na ≤ 4194304 from hm)
    have HMM := Lib.hid (show (VT.node k m s na arg).many = 1 + sumTo (fun i => (arg i).many) na from rfl)
    obtain ⟨W, hW⟩ : ∃ W, W = w.alloc (.cells #[.int .i64 k, .int .i64 m, .string s, .slice A na c] 41) := ⟨_, rfl⟩
    have HFW := Lib.hid (show Fr (fun k => k = kb) w W by rw [hW]; exact (Fr.refl _ _).alloc _)
    have hoW : OwnM W kb n (knG p) := ho.fr (S := fun _ => False) (by rw [hW]; exact (Fr.refl _ _).alloc _) (fun h => h)
    have z0 : W.cell? ⟨w.heap.size, 0, none⟩ = some (.int .i64 k) := by rw [hW]; simp [go_sem]
    have z1 : W.cell? ⟨w.heap.size, 1, none⟩ = some (.int .i64 m) := by rw [hW]; simp [go_sem]
    have z3 : W.cell? ⟨w.heap.size, 3, none⟩ = some (.slice A na c) := by rw [hW]; simp [go_sem]
    have HWW := Lib.hid hW
    obtain ⟨w1, hrun, ho1, hg1⟩ := OwnM.store und_refs hoW (by unfold maxLen; omega) m (.bool true) (Wf.of hwf.1.1 (by have := hwf.1.2; omega))
    rw [knG_put] at ho1
    have HO1 := Lib.hid ho1
    have HOW := Lib.hid hoW
    have HG1 := Lib.hid hg1
    have HRUN := Lib.hid hrun
    clear hn hwf hm ih hA hS ho hW hoW ho1 hg1 hrun
    go_enter Tryz.func45, Tryz.ntmps45
    go_upto_if 8 with (fail)
    rw [← HWW.out]
    go_cut [] (fun wx => Hid (Fr (fun k => k = kb) w wx) ∧ wx.cell? ⟨w.heap.size, 3, none⟩ = some (.slice A na c) ∧ ∃ n1, n1 ≤ n + 1 ∧ Hid (OwnM wx kb n1 (knG fun x => p x || (k == 6 && x == m))))
    case first =>
      by_cases hk : k = 6
      · have HE := Lib.hid (show (fun x => p x || x == m) = (fun x => p x || (k == 6 && x == m)) by funext x; simp [hk])
        have e1 : (k == 6) = true := by simpa using hk
        have e2 : decide (k = 6) = true := by simpa using hk
        have hr := HRUN.out
        subst hk
        go_wp2_with fail
        go_meet
        refine ⟨Lib.hid (HFW.out.trans' (Fr.of_grown HG1.out (fun b hb => .inl (by injection hb with hb; exact hb.symm)))), ?_, _, ?_, Lib.hid (HE.out ▸ HO1.out)⟩
        · exact (grown_cell HG1.out (World.block_lt_of_cell? W _ z3) (fun e => by injection e with e; exact absurd (show w.heap.size = kb from e) (by omega))).trans z3
        · split <;> omega
      · have HE := Lib.hid (show p = (fun x => p x || (k == 6 && x == m)) by funext x; simp [hk])
        have e1 : (k == 6) = false := by simpa using hk
        clear hk
        go_wp2_with fail
        go_meet
        exact ⟨HFW, z3, n, by omega, Lib.hid (HE.out ▸ HOW.out)⟩
    case rest =>
      obtain ⟨HF, x3, n1, hn1, HO⟩ := hcut
      clear z0 z1 z3
      go_wp2_with fail
      go_loopw [5, 15] (fun _ i wr => ∃ q n2 : Nat, q ≤ na ∧ i = .int .i64 q ∧ Hid (Fr (fun k => k = kb) w wr) ∧ n2 ≤ n + 1 + sumTo (fun i => (arg i).many) q ∧ Hid (OwnM wr kb n2 (knG fun x => p x || ((k == 6 && x == m) || anyOf (fun i => refsV (arg i) x) q)))) (fun _ i _ => na - (intOf i).toNat)
      case atStart => exact ⟨0, n1, Nat.zero_le _, rfl, HF, by simpa [sumTo] using hn1, by simpa [anyOf_nil] using HO⟩
      case round =>
        obtain ⟨q, n2, hq, rfl, HFr, hn2, HOr⟩ := hrel
        by_cases hlt : q < na
        · obtain ⟨b, off, rfl, hb, hSb, C, hC⟩ := isV_arg HV.out (by omega)
          obtain ⟨hV, hcell⟩ := hC q hlt
          have hbk : b ≠ kb := HS.out b hSb
          have hVr := Lib.hid (isV_frame (w' := wr) (S' := S) HFr.out.size (fun b hs hlt => ⟨hs, HFr.out.block b hlt (HS.out b hs)⟩) hV)
          obtain ⟨k', m', s', A', n', c', hCq⟩ := isV_cells hV
          rw [hCq] at hVr hcell
          have c0 : wr.cell? ⟨b, off + q * 4, none⟩ = some (.int .i64 k') := HFr.out.cell (hcell 0 _ rfl) hbk
          have c1 : wr.cell? ⟨b, off + q * 4 + 1, none⟩ = some (.int .i64 m') := HFr.out.cell (hcell 1 _ rfl) hbk
          have c2 : wr.cell? ⟨b, off + q * 4 + 2, none⟩ = some (.string s') := HFr.out.cell (hcell 2 _ rfl) hbk
          have c3 : wr.cell? ⟨b, off + q * 4 + 3, none⟩ = some (.slice A' n' c') := HFr.out.cell (hcell 3 _ rfl) hbk
          have hle : sumTo (fun i => (arg i).many) (q + 1) ≤ sumTo (fun i => (arg i).many) na := sumTo_mono (by omega)
          have hs1 : sumTo (fun i => (arg i).many) (q + 1) = sumTo (fun i => (arg i).many) q + (arg q).many := rfl
          have hmm := HM.out
          have hnn : n + (1 + sumTo (fun i => (arg i).many) na) ≤ 1000000000000 := HN.out
          have HQ1 := Lib.hid (show n2 + (arg q).many ≤ n + 1 + sumTo (fun i => (arg i).many) (q + 1) by omega)
          have hsz := HFr.out.size
          obtain ⟨W2, hW2⟩ : ∃ W2, W2 = wr.alloc (.cells #[.int .i64 k', .int .i64 m', .string s', .slice A' n' c'] 41) := ⟨_, rfl⟩
          have hf2 : Fr (fun _ => False) wr W2 := by rw [hW2]; exact (Fr.refl _ _).alloc _
          have hcall := IH.out q [.int .i64 k', .int .i64 m', .string s', .slice A' n' c'] S kb n2 (fun x => p x || ((k == 6 && x == m) || anyOf (fun i => refsV (arg i) x) q)) W2 (isV_frame hf2.size (fun b hs hlt => ⟨hs, hf2.block b hlt (fun h => h)⟩) hVr.out) (HWF.out.2 q hlt) (by omega) HS.out (HOr.out.fr hf2 (fun h => h)) (by omega)
          have HCALL := Lib.hid hcall
          have HF2 := Lib.hid hf2
          have HW2 := Lib.hid hW2
          clear hnn hVr hcell hCq hle hs1 hmm hn2 hcall hV hf2 hW2
          go_wp2_with fail
          rw [← HW2.out]
          refine HCALL.out.mono ?_
          rintro e w3 ⟨rfl, hf3, n3, hn3, ho3⟩
          have HO3 := Lib.hid ho3
          have HF3 := Lib.hid hf3
          clear ho3 hf3 c0 c1 c2 c3
          go_wp2_with fail
          go_roundw
          case rel =>
            refine ⟨q + 1, n3, by omega, by go_num, Lib.hid ((HFr.out.trans' (HF2.out.weak (fun _ h => h.elim))).trans' HF3.out), by have := HQ1.out; omega, Lib.hid ?_⟩
            have := HO3.out
            simpa [anyOf_up, Bool.or_assoc] using this
          case measure => simp [intOf]; omega
        · obtain rfl : q = na := by omega
          go_wp2_with fail
          refine bodyPost_end (results_none rfl _ _ _) rfl ⟨rfl, HFr.out, n2, by rw [HMM.out]; omega, ?_⟩
          have := HOr.out
          simpa [refsV] using this
end Go.Proofs.YtjjfglbcikaicaaGreat
namespace Go.Proofs.YtjjfglbcikaicaaGreat
open Go.RowKit Go.Maps
set_option linter.unusedVariables false
set_option linter.unusedSimpArgs false
set_option maxRecDepth 100000 in
set_option maxHeartbeats 400000 in
theorem ieach_nil (f : Value) (w : World) : Calls Tryz.prog 126 #[.slice none 0 0, f] w fun e w' => e = .returned (.slice none 0 0) ∧ w' = w := by
  go_enter Tryz.func126, Tryz.ntmps126
  go_wp2_with fail
  go_loopw [5, 7, 10] (fun v _ i wr => v = .slice none 0 0 ∧ i = .int .i64 0 ∧ wr = w) (fun _ _ _ _ => 0)
  case atStart => exact ⟨rfl, rfl, rfl⟩
  case round =>
    obtain ⟨rfl, rfl, rfl⟩ := hrel
    go_wp2_with fail
    go_ret
    exact ⟨rfl, rfl⟩
def SavedPost (nm : ByteArray) (n : Nat) (arg : Nat → VT) (w : World) (v : Value → Value) (e : Ending) (w' : World) : Prop :=
  ∃ A c, e = .returned (v (.agg #[.string nm, .slice A n c, .slice none 0 0])) ∧ n ≤ c ∧ c ≤ 9223372036854775807 ∧ RdV w' (fun b => w.heap.size ≤ b) A n arg ∧ Below w.heap.size w w'
set_option maxRecDepth 100000 in
set_option maxHeartbeats 4000000 in
theorem saved_any (nm : ByteArray) (n c : Nat) (A : Option Addr) (arg : Nat → VT) (S : Nat → Prop) (w : World) (hn : n ≤ 4194304) (hV : RdV w S A n arg) (hm : ∀ i, i < n → (arg i).many ≤ 4194304) :
    Calls Tryz.prog 97 #[.agg #[.string nm, .slice A n c, .slice none 0 0]] w (SavedPost nm n arg w id) := by
  have HV := Lib.hid hV
  have HM := Lib.hid hm
  obtain ⟨W, hW⟩ : ∃ W, W = (w.alloc (.cells #[.string nm, .slice A n c, .slice none 0 0] 80)).alloc (.cells #[.string ⟨#[]⟩, .slice none 0 0, .slice none 0 0] 80) := ⟨_, rfl⟩
  have HF := Lib.hid (show Below w.heap.size w W by rw [hW]; exact ((Below.refl _ _).alloc (Nat.le_refl _) _).alloc (by simp) _)
  have z0 : W.cell? ⟨w.heap.size, 0, none⟩ = some (.string nm) := by rw [hW]; simp [go_sem]
  have z1 : W.cell? ⟨w.heap.size, 1, none⟩ = some (.slice A n c) := by rw [hW]; simp [go_sem]
  have z2 : W.cell? ⟨w.heap.size, 2, none⟩ = some (.slice none 0 0) := by rw [hW]; simp [go_sem]
  have zf : ∀ o, W.frozen? ⟨w.heap.size, o, none⟩ = false := by intro o; rw [hW]; simp [go_sem]
  have y0 : W.cell? ⟨w.heap.size + 1, 0, none⟩ = some (.string ⟨#[]⟩) := by rw [hW]; simp [go_sem]
  have y1 : W.cell? ⟨w.heap.size + 1, 1, none⟩ = some (.slice none 0 0) := by rw [hW]; simp [go_sem]
  have y2 : W.cell? ⟨w.heap.size + 1, 2, none⟩ = some (.slice none 0 0) := by rw [hW]; simp [go_sem]
  have yf : ∀ o, W.frozen? ⟨w.heap.size + 1, o, none⟩ = false := by intro o; rw [hW]; simp [go_sem]
  have hz : w.heap.size + 2 = W.heap.size := by rw [hW]; simp
  have HVD := Lib.hid (show RdV W.drew S A n arg from RdV.frame hV HF.out.size (fun b hb hlt => ⟨hb, HF.out.block b hlt⟩))
  have HWW := Lib.hid hW
  clear hV hm hW
  go_enter Tryz.func97, Tryz.ntmps97
  go_wp2_with fail
  rw [← HWW.out]
  go_cut [] (fun wx => ∃ A' c', Hid (n ≤ c' ∧ c' ≤ 9223372036854775807 ∧ RdV wx (fun b => w.heap.size ≤ b ∧ b ≠ w.heap.size ∧ b ≠ w.heap.size + 1) A' n arg) ∧ Hid (Below w.heap.size w wx) ∧ wx.cell? ⟨w.heap.size, 0, none⟩ = some (.string nm) ∧ wx.cell? ⟨w.heap.size, 1, none⟩ = some (.slice A' n c') ∧ wx.cell? ⟨w.heap.size, 2, none⟩ = some (.slice none 0 0) ∧ wx.cell? ⟨w.heap.size + 1, 0, none⟩ = some (.string ⟨#[]⟩) ∧ wx.cell? ⟨w.heap.size + 1, 1, none⟩ = some (.slice none 0 0) ∧ wx.cell? ⟨w.heap.size + 1, 2, none⟩ = some (.slice none 0 0) ∧ (∀ o, wx.frozen? ⟨w.heap.size + 1, o, none⟩ = false))
  case first =>
    go_region_with (first
      | (go_at_call 76; refine (values_any n c A arg S W.drew hn HVD.out HM.out).mono ?_; rintro e w1 ⟨v1, C1, rfl, ho1, hl1, hv1, hb1⟩; obtain ⟨A1, c1, rfl, q1, q2, q3⟩ := each_rdv ho1 hl1 hv1; have HB1 := Lib.hid (show Below W.heap.size W w1 from ((Below.refl _ _).drew).trans hb1); have HQ := Lib.hid (And.intro q1 (And.intro q2 q3)); have hfr := Fr.of_below (S := fun _ => False) HB1.out; have z0' := hfr.cell z0 (fun h => h); have z1' := hfr.cell z1 (fun h => h); have z2' := hfr.cell z2 (fun h => h); have zf' := (fun o => (hfr.frozen (b := w.heap.size) (o := o) (by omega) (fun h => h)).trans (zf o) : ∀ o, w1.frozen? ⟨w.heap.size, o, none⟩ = false); have y0' := hfr.cell y0 (fun h => h); have y1' := hfr.cell y1 (fun h => h); have y2' := hfr.cell y2 (fun h => h); have yf' := (fun o => (hfr.frozen (b := w.heap.size + 1) (o := o) (by omega) (fun h => h)).trans (yf o) : ∀ o, w1.frozen? ⟨w.heap.size + 1, o, none⟩ = false); clear ho1 hl1 hv1 hb1 q1 q2 q3)
      | (go_at_call 126; refine (ieach_nil _ _).mono ?_; rintro e w2 ⟨rfl, rfl⟩))
    all_goals
      go_wp2_with fail
      go_meet
      refine ⟨A1, c1, Lib.hid ⟨HQ.out.1, HQ.out.2.1, RdV.frame HQ.out.2.2 (by simp) (fun b hb hlt => ?_)⟩, Lib.hid ?_, by simp [go_sem, z0'], by simp [go_sem, z1'], by simp [go_sem, z2'], by simp [go_sem, y0'], by simp [go_sem, y1'], by simp [go_sem, y2'], fun o => by simp [go_sem, yf']⟩
      · have hb' : W.heap.size ≤ b := hb
        refine ⟨⟨by omega, by omega, by omega⟩, ?_⟩
        iterate 2 (refine blk_setN ?_ (by omega))
        rfl
      · exact ((HF.out.trans (HB1.out.mono (by omega))).setCell (Nat.le_refl _) _).setCell (Nat.le_refl _) _
  case rest =>
    obtain ⟨A', c', HQ, HB, x0, x1, x2, v0, v1, v2, vf⟩ := hcut
    have hzc := HB.out.size
    clear z0 z1 z2 zf y0 y1 y2 yf
    have i0 : (wc.cell? ⟨w.heap.size + 1, 0, none⟩).isSome = true := by rw [v0]; rfl
    have i1 : (wc.cell? ⟨w.heap.size + 1, 1, none⟩).isSome = true := by rw [v1]; rfl
    have i2 : (wc.cell? ⟨w.heap.size + 1, 2, none⟩).isSome = true := by rw [v2]; rfl
    go_wp2_with fail
    refine bodyPost_ret (v := .agg #[.string nm, .slice A' n c', .slice none 0 0]) (by simp [results, Tryz.results97, go_sem, i0, i1, i2]) rfl ⟨A', c', rfl, HQ.out.1, HQ.out.2.1, ?_, ?_⟩
    · refine RdV.frame HQ.out.2.2 (by simp) (fun b hb hlt => ⟨hb.1, ?_⟩)
      iterate 3 (refine blk_setN ?_ hb.2.2)
      rfl
    · iterate 3 (refine below_set ?_ (by omega))
      exact HB.out
end Go.Proofs.YtjjfglbcikaicaaGreat
namespace Go.Proofs.YtjjfglbcikaicaaGreat
open Go.RowKit Go.Maps
set_option linter.unusedVariables false
set_option linter.unusedSimpArgs false
theorem RdV.below {w w' : World} {S : Nat → Prop} {A : Option Addr} {n : Nat} {arg : Nat → VT} (h : RdV w S A n arg) (hb : Below w.heap.size w w') : RdV w' S A n arg := h.frame hb.size (fun b hs hl => ⟨hs, hb.block b hl⟩)
set_option maxRecDepth 100000 in
set_option maxHeartbeats 4000000 in
theorem dsave_any (X : Nat → Prop) (base T b rb : Nat) (ib : Option Nat) (d : DiaS) (w : World) (H : DiaAt w X base T b rb ib d) (h7 : d.dk = 7) :
    Calls Tryz.prog 94 #[.pointer (some ⟨b, 0, none⟩)] w (SavedPost d.nm 2 (topV d.r) w (fun v => .tuple #[v, .int .i64 0])) := by
  obtain ⟨A2, n2, c2, e2, f2⟩ := H.c2
  obtain ⟨rfl, f3, f4, hV⟩ := f2 h7
  obtain ⟨A3, n3, c3, xs, e3, _, _, _, f5⟩ := H.c3
  obtain ⟨rfl, rfl, rfl⟩ := f5 h7
  have c1 := H.c1
  have c4 := H.c4
  rw [h7] at c4
  have hlt := H.lt.1
  obtain ⟨W, hW⟩ : ∃ W, W = w.alloc (.cells #[.string ⟨#[]⟩, .slice none 0 0, .slice none 0 0] 80) := ⟨_, rfl⟩
  have HF := Lib.hid (show Below w.heap.size w W by rw [hW]; exact (Below.refl _ _).alloc (Nat.le_refl _) _)
  have HV := Lib.hid (show RdV W (fun k => ¬ X k) A2 2 (topV d.r) from hV.below HF.out)
  have y0 : W.cell? ⟨w.heap.size, 0, none⟩ = some (.string ⟨#[]⟩) := by rw [hW]; simp [go_sem]
  have y1 : W.cell? ⟨w.heap.size, 1, none⟩ = some (.slice none 0 0) := by rw [hW]; simp [go_sem]
  have y2 : W.cell? ⟨w.heap.size, 2, none⟩ = some (.slice none 0 0) := by rw [hW]; simp [go_sem]
  have yf : ∀ o, W.frozen? ⟨w.heap.size, o, none⟩ = false := by intro o; rw [hW]; simp [go_sem]
  have hz : w.heap.size + 1 = W.heap.size := by rw [hW]; simp
  have HWW := Lib.hid hW
  clear H f2 f5 h7 hV hW
  go_enter Tryz.func94, Tryz.ntmps94
  go_wp2_with fail
  rw [← HWW.out]
  refine (saved_any d.nm 2 c2 A2 (topV d.r) _ W (by omega) HV.out (fun i _ => by unfold topV; split <;> simp [vLeaf, VT.many, sumTo])).mono ?_
  rintro e w1 ⟨A', c', rfl, q1, q2, q3, hb1⟩
  have hfr := Fr.of_below (S := fun _ => False) hb1
  have x0 := hfr.cell y0 (fun h => h)
  have x1 := hfr.cell y1 (fun h => h)
  have x2 := hfr.cell y2 (fun h => h)
  have xf : ∀ o, w1.frozen? ⟨w.heap.size, o, none⟩ = false := fun o => (hfr.frozen (b := w.heap.size) (o := o) (by omega) (fun h => h)).trans (yf o)
  have HQ := Lib.hid q3
  have HB := Lib.hid hb1
  have hz1 := hb1.size
  have i0 : (w1.cell? ⟨w.heap.size, 0, none⟩).isSome = true := by rw [x0]; rfl
  have i1 : (w1.cell? ⟨w.heap.size, 1, none⟩).isSome = true := by rw [x1]; rfl
  have i2 : (w1.cell? ⟨w.heap.size, 2, none⟩).isSome = true := by rw [x2]; rfl
  clear hfr q3 hb1 y0 y1 y2 yf
  simp only [id]
  go_wp2_with fail
  refine bodyPost_ret (v := .tuple #[.agg #[.string d.nm, .slice A' 2 c', .slice none 0 0], .int .i64 0]) (by simp [results, Tryz.results94, go_sem, i0, i1, i2]) rfl ⟨A', c', rfl, q1, q2, ?_, ?_⟩
  · refine RdV.frame HQ.out (by simp) (fun b hb hlt => ⟨by have : W.heap.size ≤ b := hb; omega, ?_⟩)
    have hb' : W.heap.size ≤ b := hb
    iterate 3 (refine blk_setN ?_ (by omega))
    rfl
  · iterate 3 (refine below_set ?_ (by omega))
    exact HF.out.trans (HB.out.mono (by omega))
def anyV (arg : Nat → VT) (n : Nat) (x : Int) : Bool := anyOf (fun i => refsV (arg i) x) n
set_option maxRecDepth 100000 in
set_option maxHeartbeats 4000000 in
theorem addSaved_any (nm : ByteArray) (na c : Nat) (A : Option Addr) (arg : Nat → VT) (S : Nat → Prop) (kb n : Nat) (p : Int → Bool) (w : World) (hV : RdV w S A na arg) (hS : ∀ k, S k → k ≠ kb) (hwf : ∀ i, i < na → (arg i).wf) (hm : ∀ i, i < na → (arg i).many ≤ 10) (hna : na ≤ 10) (ho : OwnM w kb n (knG p)) (hn : n + 100 ≤ 1000000000000) :
    Calls Tryz.prog 73 #[.map (some kb), .agg #[.string nm, .slice A na c, .slice none 0 0]] w fun e w' => e = .returned (.tuple #[]) ∧ Fr (fun k => k = kb) w w' ∧ ∃ n', n' ≤ n + 100 ∧ OwnM w' kb n' (knG fun x => p x || anyV arg na x) := by
  have HV := Lib.hid hV
  have HS := Lib.hid hS
  have HWF := Lib.hid hwf
  have HM := Lib.hid hm
  have hkb := ho.lt
  have HF0 := Lib.hid (show Fr (fun k => k = kb) w (w.alloc (.cells #[.string nm, .slice A na c, .slice none 0 0] 80)) from (Fr.refl _ _).alloc _)
  have HO := Lib.hid (show OwnM (w.alloc (.cells #[.string nm, .slice A na c, .slice none 0 0] 80)) kb n (knG fun x => p x || anyV arg 0 x) from by
    have := ho.fr (S := fun _ => False) ((Fr.refl _ w).alloc (.cells #[.string nm, .slice A na c, .slice none 0 0] 80)) (fun h => h)
    have e : (fun x => p x || anyV arg 0 x) = p := by funext x; unfold anyV; rw [anyOf_nil]; simp
    rw [e]; exact this)
  have hfz : (w.alloc (.cells #[.string nm, .slice A na c, .slice none 0 0] 80)).cell? ⟨w.heap.size, 2, none⟩ = some (.slice none 0 0) := by simp [go_sem]
  clear hV hS hwf hm ho
  go_enter Tryz.func73, Tryz.ntmps73
  go_wp2_with fail
  go_loopw [5, 11] (fun _ i wr => ∃ q n2 : Nat, q ≤ na ∧ i = .int .i64 q ∧ Hid (Fr (fun k => k = kb) w wr) ∧ n2 ≤ n + 10 * q ∧ Hid (OwnM wr kb n2 (knG fun x => p x || anyV arg q x)) ∧ wr.cell? ⟨w.heap.size, 2, none⟩ = some (.slice none 0 0)) (fun _ i _ => na - (intOf i).toNat)
  case atStart => exact ⟨0, n, Nat.zero_le _, rfl, HF0, by omega, HO, hfz⟩
  case round =>
    obtain ⟨q, n2, hq, rfl, HFr, hn2, HOr, hz⟩ := hrel
    clear hfz
    by_cases hlt : q < na
    · obtain ⟨b, off, rfl, hb, hSb, C, hC⟩ := HV.out (by omega)
      obtain ⟨hV, hcell⟩ := hC q hlt
      have hbk : b ≠ kb := HS.out b hSb
      have hVr := Lib.hid (isV_frame (w' := wr) (S' := S) HFr.out.size (fun b hs hlt => ⟨hs, HFr.out.block b hlt (HS.out b hs)⟩) hV)
      obtain ⟨k', m', s', A', n', c', hCq⟩ := isV_cells hV
      rw [hCq] at hVr hcell
      have c0 : wr.cell? ⟨b, off + q * 4, none⟩ = some (.int .i64 k') := HFr.out.cell (hcell 0 _ rfl) hbk
      have c1 : wr.cell? ⟨b, off + q * 4 + 1, none⟩ = some (.int .i64 m') := HFr.out.cell (hcell 1 _ rfl) hbk
      have c2 : wr.cell? ⟨b, off + q * 4 + 2, none⟩ = some (.string s') := HFr.out.cell (hcell 2 _ rfl) hbk
      have c3 : wr.cell? ⟨b, off + q * 4 + 3, none⟩ = some (.slice A' n' c') := HFr.out.cell (hcell 3 _ rfl) hbk
      have hmq := HM.out q hlt
      have hsz := HFr.out.size
      obtain ⟨W2, hW2⟩ : ∃ W2, W2 = wr.alloc (.cells #[.int .i64 k', .int .i64 m', .string s', .slice A' n' c'] 41) := ⟨_, rfl⟩
      have hf2 : Fr (fun _ => False) wr W2 := by rw [hW2]; exact (Fr.refl _ _).alloc _
      have hcall := radd_any (arg q) [.int .i64 k', .int .i64 m', .string s', .slice A' n' c'] S kb n2 (fun x => p x || anyV arg q x) W2 (isV_frame hf2.size (fun b hs hlt => ⟨hs, hf2.block b hlt (fun h => h)⟩) hVr.out) (HWF.out q hlt) (by omega) HS.out (HOr.out.fr hf2 (fun h => h)) (by omega)
      have hz2 := hf2.cell hz (fun h => h)
      have hne : w.heap.size ≠ kb := by omega
      have HCALL := Lib.hid hcall
      have HF2 := Lib.hid hf2
      have HW2 := Lib.hid hW2
      clear hVr hcell hCq hcall hV hf2 hW2
      go_wp2_with fail
      rw [← HW2.out]
      refine HCALL.out.mono ?_
      rintro e w3 ⟨rfl, hf3, n3, hn3, ho3⟩
      have HO3 := Lib.hid ho3
      have HF3 := Lib.hid hf3
      have hz3 := hf3.cell hz2 hne
      clear ho3 hf3 c0 c1 c2 c3 hz2 hz
      go_wp2_with fail
      go_roundw
      case rel =>
        refine ⟨q + 1, n3, by omega, by go_num, Lib.hid ((HFr.out.trans' (HF2.out.weak (fun _ h => h.elim))).trans' HF3.out), by omega, Lib.hid ?_, hz3⟩
        have := HO3.out
        unfold anyV at this ⊢
        simpa [anyOf_up, Bool.or_assoc] using this
      case measure => simp [intOf]; omega
    · obtain rfl : q = na := by omega
      go_wp2_with fail
      go_loopw [7, 22] (fun _ i wq => i = .int .i64 0 ∧ wq = wr) (fun _ _ _ => 0)
      case atStart => exact ⟨rfl, rfl⟩
      case round =>
        obtain ⟨rfl, rfl⟩ := hrel
        go_wp2_with fail
        exact bodyPost_end (results_none rfl _ _ _) rfl ⟨rfl, HFr.out, n2, by omega, HOr.out⟩
set_option maxRecDepth 100000 in
set_option maxHeartbeats 4000000 in
theorem again_any (n c : Nat) (A : Option Addr) (at_ : Int) (arg : Nat → LT) (S : Nat → Prop) (w : World) (hnc : n ≤ c) (hcm : c ≤ 9223372036854775807) (hR : RdL w S A n arg) (ok : OkBox n at_ arg) (hm : ∀ i, i < n → (arg i).val.many ≤ 4194304) :
    Calls Tryz.prog 113 #[.agg #[.slice A n c, .int .i64 at_]] w fun e w' => ∃ A' c', e = .returned (.tuple #[.agg #[.slice A' n c', .int .i64 0], .int .i64 0]) ∧ n ≤ c' ∧ c' ≤ 9223372036854775807 ∧ RdL w' (fun b => w.heap.size ≤ b) A' n arg ∧ Below w.heap.size w w' := by
  obtain ⟨W, hW⟩ : ∃ W, W = (w.alloc (.cells #[.slice A n c, .int .i64 at_] 110)).alloc (.cells #[.slice none 0 0, .int .i64 0] 110) := ⟨_, rfl⟩
  have HF := Lib.hid (show Below w.heap.size w W by rw [hW]; exact ((Below.refl _ _).alloc (Nat.le_refl _) _).alloc (by simp) _)
  have HR := Lib.hid (hR.below HF.out)
  have HM := Lib.hid hm
  have hn60 := ok.1
  have HOK := Lib.hid ok
  have z0 : W.cell? ⟨w.heap.size, 0, none⟩ = some (.slice A n c) := by rw [hW]; simp [go_sem]
  have z1 : W.cell? ⟨w.heap.size, 1, none⟩ = some (.int .i64 at_) := by rw [hW]; simp [go_sem]
  have y0 : W.cell? ⟨w.heap.size + 1, 0, none⟩ = some (.slice none 0 0) := by rw [hW]; simp [go_sem]
  have y1 : W.cell? ⟨w.heap.size + 1, 1, none⟩ = some (.int .i64 0) := by rw [hW]; simp [go_sem]
  have yf : ∀ o, W.frozen? ⟨w.heap.size + 1, o, none⟩ = false := by intro o; rw [hW]; simp [go_sem]
  have hz : w.heap.size + 2 = W.heap.size := by rw [hW]; simp
  have HWW := Lib.hid hW
  clear hR ok hm hW
  go_enter Tryz.func113, Tryz.ntmps113
  go_wp2_with fail
  rw [← HWW.out]
  refine (boxCheck_ok n c A at_ arg S W (by omega) HR.out HOK.out).mono ?_
  rintro e w1 ⟨rfl, hb1⟩
  have hfr := Fr.of_below (S := fun _ => False) hb1
  have z0' := hfr.cell z0 (fun h => h)
  have y0' := hfr.cell y0 (fun h => h)
  have y1' := hfr.cell y1 (fun h => h)
  have yf' : ∀ o, w1.frozen? ⟨w.heap.size + 1, o, none⟩ = false := fun o => (hfr.frozen (b := w.heap.size + 1) (o := o) (by omega) (fun h => h)).trans (yf o)
  have HR1 := Lib.hid (HR.out.below hb1)
  have HB1 := Lib.hid hb1
  have hz1 := hb1.size
  clear hfr hb1 z0 z1 y0 y1 yf
  go_wp2_with fail
  refine (leach_any n c A arg S w1 (by omega) HR1.out HM.out).mono ?_
  rintro e w2 ⟨v, C, rfl, hown, hCl, hCv, hb2⟩
  have HLR := Lib.hid (LRow.mk (arg := arg) hown hCl hCv)
  obtain ⟨A2, cap, rfl, hnc2, hcm2, hA2⟩ := own_any hown
  have hfr := Fr.of_below (S := fun _ => False) hb2
  have v0 := hfr.cell y0' (fun h => h)
  have v1 := hfr.cell y1' (fun h => h)
  have vf : ∀ o, w2.frozen? ⟨w.heap.size + 1, o, none⟩ = false := fun o => (hfr.frozen (b := w.heap.size + 1) (o := o) (by omega) (fun h => h)).trans (yf' o)
  have i0 : (w2.cell? ⟨w.heap.size + 1, 0, none⟩).isSome = true := by rw [v0]; rfl
  have i1 : (w2.cell? ⟨w.heap.size + 1, 1, none⟩).isSome = true := by rw [v1]; rfl
  have HB2 := Lib.hid hb2
  have hz2 := hb2.size
  clear hfr hb2 y0' y1' yf' hown hCl hCv
  go_wp2_with fail
  refine bodyPost_ret (v := .tuple #[.agg #[.slice A2 n cap, .int .i64 0], .int .i64 0]) (by simp [results, Tryz.results113, go_sem, i0, i1]) rfl ⟨A2, cap, rfl, hnc2, hcm2, ?_, ?_⟩
  · refine RdL.frame HLR.out.rd (by simp) (fun b hb hlt => ⟨by have : w1.heap.size ≤ b := hb; omega, ?_⟩)
    have hb' : w1.heap.size ≤ b := hb
    iterate 2 (refine blk_setN ?_ (by omega))
    rfl
  · iterate 2 (refine below_set ?_ (by omega))
    exact (HF.out.trans (HB1.out.mono (by omega))).trans (HB2.out.mono (by omega))
set_option maxRecDepth 100000 in
set_option maxHeartbeats 4000000 in
theorem can_any (X : Nat → Prop) (base T : Nat) (MA : Nat → Prop) (p b rb kb : Nat) (ib : Option Nat) (a : ActS) (w : World) (H : ActG w X base T MA p b rb kb ib a) :
    Calls Tryz.prog 47 #[.pointer (some ⟨p, 0, none⟩)] w fun e w' => e = .returned (.bool (canA a)) ∧ ∃ q, w' = w.drewN q := by
  obtain ⟨A2, c2, e2, _⟩ := H.a2
  have a3 := H.a3
  have a4 := H.a4
  have a5 := H.a5
  have HC := Lib.hid (show canA a = (!a.waits || decide (a.pos < a.box.length) || decide (a.ticks = 0)) from rfl)
  clear H
  rcases hw : a.waits with _ | _
  · rw [hw] at a4 HC
    go_enter Tryz.func47, Tryz.ntmps47
    go_wp2_with fail
    go_region
    all_goals
      go_wp2_with fail
      go_ret
      rw [HC.out]
      exact ⟨rfl, 1, rfl⟩
  · rw [hw] at a4 HC
    by_cases hp : a.pos < a.box.length
    · have e1 : decide ((a.pos : Int) < (a.box.length : Int)) = true := by simpa using hp
      have e2' : decide (a.pos < a.box.length) = true := by simpa using hp
      have HE := Lib.hid e2'
      go_enter Tryz.func47, Tryz.ntmps47
      go_wp2_with fail
      go_region
      all_goals
        go_wp2_with fail
        go_ret
        rw [HC.out, HE.out]
        exact ⟨rfl, 1, rfl⟩
    · have e1 : decide ((a.pos : Int) < (a.box.length : Int)) = false := by simpa using hp
      have e2' : decide (a.pos < a.box.length) = false := by simpa using hp
      have HE := Lib.hid e2'
      rcases ht : decide (a.ticks = 0) with _ | _
      all_goals
        have HT := Lib.hid ht
        have ht' : (a.ticks == 0) = decide (a.ticks = 0) := by rfl
        rw [ht] at ht'
        go_enter Tryz.func47, Tryz.ntmps47
        go_wp2_with fail
        go_region
        all_goals
          go_wp2_with fail
          go_ret
          rw [HC.out, HE.out, HT.out]
          exact ⟨rfl, 1, rfl⟩
end Go.Proofs.YtjjfglbcikaicaaGreat
namespace Go.Proofs.YtjjfglbcikaicaaGreat
open Go.RowKit Go.Maps
set_option linter.unusedVariables false
set_option linter.unusedSimpArgs false
def LtWf (x : LT) : Prop := Wf x.frm ∧ Wf x.to ∧ Wf x.num ∧ x.val.wf ∧ x.val.many ≤ 1000
def BoxOk (l : List LT) (pos : Nat) : Prop := l.length ≤ 60 ∧ pos ≤ l.length ∧ ∀ x, x ∈ l → fitsB x.kind = true ∧ LtWf x
theorem nthL_mem {l : List LT} {i : Nat} (h : i < l.length) : nthL l i ∈ l := by
  unfold nthL
  rw [List.getD_eq_getElem?_getD, List.getElem?_eq_getElem h]
  exact List.getElem_mem h
theorem BoxOk.ok {l : List LT} {pos : Nat} (h : BoxOk l pos) : OkBox l.length (pos : Int) (nthL l) := ⟨h.1, by omega, by have := h.2.1; omega, fun i hi => (h.2.2 _ (nthL_mem hi)).1⟩
theorem BoxOk.many {l : List LT} {pos : Nat} (h : BoxOk l pos) : ∀ i, i < l.length → (nthL l i).val.many ≤ 4194304 := fun i hi => by have := (h.2.2 _ (nthL_mem hi)).2.2.2.2.2; omega
/-- what an actor's own method makes of it -/
def ActPost (X : Nat → Prop) (base T : Nat) (MA : Nat → Prop) (p : Nat) (a' : ActS) (w0 : World) (v : Value) (e : Ending) (w' : World) : Prop :=
  e = .returned v ∧ ∃ X' MA', (∀ k, X k → X' k) ∧ (∀ k, X' k → X k ∨ w0.heap.size ≤ k ∧ k < w'.heap.size) ∧ (∀ k, MA' k → MA k ∨ w0.heap.size ≤ k) ∧ (∀ k, MA' k → X' k) ∧ (∃ b rb kb ib, ActG w' X' base T MA' p b rb kb ib a') ∧ Fr MA w0 w'
theorem mkRefs : ∀ w, (Instr.makeMap 108 none).run Tryz.prog w = .ok (.map (some w.heap.size)) (w.alloc (.map #[] 0)) := fun w => by kernel_rfl
theorem refs_leaf (k m x : Int) : refsV (vLeaf k m) x = (k == 6 && x == m) := by
  unfold vLeaf refsV
  rw [anyOf_nil, Bool.or_false]
theorem anyV_top (r : RunS) (x : Int) : (false || anyV (topV r) 2 x) = (x == r.kid) := by
  unfold anyV
  rw [anyOf_up, anyOf_up, anyOf_nil]
  show (false || ((false || refsV (vLeaf 2 r.pos) x) || refsV (vLeaf 6 r.kid) x)) = _
  rw [refs_leaf, refs_leaf]
  simp
theorem topV_wf {r : RunS} (hk : Wf r.kid) (hp : r.pos ≤ 1000000) (i : Nat) : (topV r i).wf := by
  have := hk.low
  unfold topV
  split
  · exact ⟨⟨by omega, by omega⟩, fun i hi => by omega⟩
  · exact ⟨⟨by omega, by omega⟩, fun i hi => by omega⟩
set_option maxRecDepth 100000 in
set_option maxHeartbeats 8000000 in
theorem wait_any (X : Nat → Prop) (base T : Nat) (MA : Nat → Prop) (p b rb kb : Nat) (ib : Option Nat) (a : ActS) (tk : Int) (w : World) (H : ActG w X base T MA p b rb kb ib a) (hX : ∀ k, X k → k < w.heap.size) (hMX : ∀ k, MA k → X k) (hb : BoxOk a.box a.pos) (h7 : a.d.dk = 7) (hT : 100 ≤ T) (hT2 : T ≤ 1000000000000) (hself : Wf a.d.r.kid) (hbase : base ≤ w.heap.size) :
    Calls Tryz.prog 84 #[.pointer (some ⟨p, 0, none⟩), .int .i64 tk] w (ActPost X base T MA p (waitA a tk) w (.tuple #[])) := by
  have HH := Lib.hid H
  have hlt := H.lt.1
  obtain ⟨hp1, hp2, hp3, hp4, hp5, hp6⟩ := H.ap
  obtain ⟨hm1, hm2, hm3, hm4, hm5⟩ := H.mine
  obtain ⟨A2, c2, e2, l2, l3, hL⟩ := H.a2
  have a0 := H.a0
  have a1 := H.a1
  have a3 := H.a3
  have a4 := H.a4
  have a5 := H.a5
  have a6 := H.a6
  have fz := H.fz
  have HSELF := Lib.hid hself
  have HPOS := Lib.hid (show a.d.r.pos ≤ 1000000 by
    obtain ⟨A, c, vo, hs, _⟩ := HH.out.dia.run
    have h1 := hs.2.2.1
    have h2 := (HH.out.dia.pl.1 (HH.out.dia.wt h7)).1
    omega)
  have HL := Lib.hid hL
  have HX := Lib.hid hX
  have HMX := Lib.hid hMX
  have HB := Lib.hid hb
  have H7 := Lib.hid h7
  have hXp := hMX p hm1
  clear H hX hMX hb h7 hL
  go_enter Tryz.func84, Tryz.ntmps84
  go_wp2_with fail
  have HFr := Lib.hid (Fr.refl (fun k => k = p) w)
  refine (again_any a.box.length c2 A2 (a.pos : Int) (nthL a.box) (fun k => ¬ X k) _ l2 l3 (RdL.fr (S := fun k => k = p) HL.out ?_ (fun k hk => hk ▸ hXp) (fun k hk => .inl hk)) HB.out.ok HB.out.many).mono ?_
  · (repeat' first | with_reducible exact HFr.out | with_reducible exact Fr.refl _ _ | (with_reducible refine Fr.setAt ?_ _) | (with_reducible refine Fr.setNew ?_ _) | with_reducible refine Fr.alloc ?_ _ | with_reducible refine Fr.drewN ?_ _ | with_reducible refine Fr.drew ?_)
  rintro e w1 ⟨A3, c3, rfl, m2, m3, hL3, hb1⟩
  have HF1 := Lib.hid (show Fr (fun k => k = p) w w1 from (show Fr (fun k => k = p) w _ by (repeat' first | with_reducible exact HFr.out | with_reducible exact Fr.refl _ _ | (with_reducible refine Fr.setAt ?_ _) | (with_reducible refine Fr.setNew ?_ _) | with_reducible refine Fr.alloc ?_ _ | with_reducible refine Fr.drewN ?_ _ | with_reducible refine Fr.drew ?_)).trans' (Fr.of_below hb1))
  have hff := Fr.of_below (S := fun _ => False) hb1
  have b0 : w1.cell? ⟨p, 0, none⟩ = some (.pointer (some ⟨b, 0, none⟩)) := hff.cell (by simp [go_sem, a0]) (fun h => h)
  have b1 : w1.cell? ⟨p, 1, none⟩ = some (.int .i64 a.ref) := hff.cell (by simp [go_sem, a1]) (fun h => h)
  have b2 : w1.cell? ⟨p, 2, none⟩ = some (.slice A2 a.box.length c2) := hff.cell (by simp [go_sem, e2]) (fun h => h)
  have b3 : w1.cell? ⟨p, 3, none⟩ = some (.int .i64 a.pos) := hff.cell (by simp [go_sem, a3]) (fun h => h)
  have b4 : w1.cell? ⟨p, 4, none⟩ = some (.bool true) := hff.cell (by simp [go_sem, a4]) (fun h => h)
  have b5 : w1.cell? ⟨p, 5, none⟩ = some (.int .i64 tk) := hff.cell (by simp [go_sem, a5]) (fun h => h)
  have b6 : w1.cell? ⟨p, 6, none⟩ = some (.map (some kb)) := hff.cell (by simp [go_sem, a6]) (fun h => h)
  have bf : ∀ o, w1.frozen? ⟨p, o, none⟩ = false := fun o => (hff.frozen (by simpa using hlt) (fun h => h)).trans (by simp [go_sem, fz])
  have hz1 := HF1.out.size
  have hp1' : p < w1.heap.size := by omega
  have HL3 := Lib.hid hL3
  clear hff hb1 a0 a1 e2 a3 a4 a5 a6 fz hL3 HFr
  have HFr := HF1
  go_wp2_with fail
  refine (dsave_any X base T b rb ib a.d _ (DiaAt.fr (S := fun k => k = p) (X' := X) HH.out.dia ?_ (fun k hk => hk ▸ hXp) (fun k hk => .inl hk) (fun k hk => hk ▸ HH.out.lbp.1) (Nat.le_refl _) (fun e => hp1 e.symm) (fun e => hp2 e.symm) (fun k hk e => (hp6 k hk).1 e)) H7.out).mono ?_
  · (repeat' first | with_reducible exact HFr.out | with_reducible exact Fr.refl _ _ | (with_reducible refine Fr.setAt ?_ _) | (with_reducible refine Fr.setNew ?_ _) | with_reducible refine Fr.alloc ?_ _ | with_reducible refine Fr.drewN ?_ _ | with_reducible refine Fr.drew ?_)
  rintro e w2 ⟨A4, c4, rfl, n2, n3, hV4, hb2⟩
  have HF2 := Lib.hid (show Fr (fun k => k = p) w w2 from (show Fr (fun k => k = p) w _ by (repeat' first | with_reducible exact HFr.out | with_reducible exact Fr.refl _ _ | (with_reducible refine Fr.setAt ?_ _) | (with_reducible refine Fr.setNew ?_ _) | with_reducible refine Fr.alloc ?_ _ | with_reducible refine Fr.drewN ?_ _ | with_reducible refine Fr.drew ?_)).trans' (Fr.of_below hb2))
  have hff := Fr.of_below (S := fun _ => False) hb2
  have g0 : w2.cell? ⟨p, 0, none⟩ = some (.pointer (some ⟨b, 0, none⟩)) := hff.cell (by simp [go_sem, hp1', b0]) (fun h => h)
  have g1 : w2.cell? ⟨p, 1, none⟩ = some (.int .i64 a.ref) := hff.cell (by simp [go_sem, hp1', b1]) (fun h => h)
  have g2 : w2.cell? ⟨p, 2, none⟩ = some (.slice A3 a.box.length c3) := hff.cell (by simp [go_sem, hp1', b2]) (fun h => h)
  have g3 : w2.cell? ⟨p, 3, none⟩ = some (.int .i64 0) := hff.cell (by simp [go_sem, hp1', b3]) (fun h => h)
  have g4 : w2.cell? ⟨p, 4, none⟩ = some (.bool true) := hff.cell (by simp [go_sem, hp1', b4]) (fun h => h)
  have g5 : w2.cell? ⟨p, 5, none⟩ = some (.int .i64 tk) := hff.cell (by simp [go_sem, hp1', b5]) (fun h => h)
  have g6 : w2.cell? ⟨p, 6, none⟩ = some (.map (some kb)) := hff.cell (by simp [go_sem, hp1', b6]) (fun h => h)
  have gf : ∀ o, w2.frozen? ⟨p, o, none⟩ = false := fun o => (hff.frozen (by simp; omega) (fun h => h)).trans (by simp [go_sem, hp1', bf])
  have hz2 := hb2.size
  simp at hz2
  have hp2' : p < w2.heap.size := by omega
  have hfx : Fr (fun k => k = p) w1 w2 := (show Fr (fun k => k = p) w1 _ by (repeat' first | with_reducible exact HFr.out | with_reducible exact Fr.refl _ _ | (with_reducible refine Fr.setAt ?_ _) | (with_reducible refine Fr.setNew ?_ _) | with_reducible refine Fr.alloc ?_ _ | with_reducible refine Fr.drewN ?_ _ | with_reducible refine Fr.drew ?_)).trans' (Fr.of_below hb2)
  have HL4 := Lib.hid (show RdL w2 (fun k => w.heap.size ≤ k) A3 a.box.length (nthL a.box) from RdL.frame HL3.out (by omega) (fun k hk hlt' => ⟨by
      have hk' := hk
      simp at hk'
      omega, hfx.block k hlt' (fun e => by
      have hk' := hk
      simp at hk'
      omega)⟩))
  have HV4 := Lib.hid (RdV.frame (S' := fun k => w1.heap.size ≤ k) hV4 (Nat.le_refl _) (fun k hk _ => ⟨by simp at hk; omega, rfl⟩))
  clear hfx hff hb2 b0 b1 b2 b3 b4 b5 b6 bf hV4 HFr
  have HFr := HF2
  dsimp only
  have hmk := mkRefs
  go_wp2_with fail
  obtain ⟨W5, hW5⟩ : ∃ W5, W5 = ((w2.setCell ⟨p, 6, none⟩ (.map (some (w2.heap.size + 1)))).alloc (.cells #[.string a.d.nm, .slice A4 2 c4, .slice none 0 0] 80)).alloc (.map #[] 0) := ⟨_, rfl⟩
  rw [← hW5]
  have hf5 : Fr (fun k => k = p) w2 W5 := by rw [hW5]; (repeat' first | with_reducible exact HFr.out | with_reducible exact Fr.refl _ _ | (with_reducible refine Fr.setAt ?_ _) | (with_reducible refine Fr.setNew ?_ _) | with_reducible refine Fr.alloc ?_ _ | with_reducible refine Fr.drewN ?_ _ | with_reducible refine Fr.drew ?_)
  have HF5 := Lib.hid (show Fr (fun k => k = p) w W5 from HF2.out.trans' hf5)
  have hz5 : w2.heap.size + 2 = W5.heap.size := by rw [hW5]; simp
  have q6 : W5.cell? ⟨p, 6, none⟩ = some (.map (some (w2.heap.size + 1))) := by rw [hW5]; simp [go_sem, hp2', g6, show p < w2.heap.size + 1 by omega]
  have s0 : W5.cell? ⟨w2.heap.size, 0, none⟩ = some (.string a.d.nm) := by rw [hW5]; simp [go_sem]
  have s1 : W5.cell? ⟨w2.heap.size, 1, none⟩ = some (.slice A4 2 c4) := by rw [hW5]; simp [go_sem]
  have s2 : W5.cell? ⟨w2.heap.size, 2, none⟩ = some (.slice none 0 0) := by rw [hW5]; simp [go_sem]
  have k0 : W5.cell? ⟨p, 0, none⟩ = some (.pointer (some ⟨b, 0, none⟩)) := by rw [hW5]; simp [go_sem, hp2', g0, show p < w2.heap.size + 1 by omega]
  have k1 : W5.cell? ⟨p, 1, none⟩ = some (.int .i64 a.ref) := by rw [hW5]; simp [go_sem, hp2', g1, show p < w2.heap.size + 1 by omega]
  have k2 : W5.cell? ⟨p, 2, none⟩ = some (.slice A3 a.box.length c3) := by rw [hW5]; simp [go_sem, hp2', g2, show p < w2.heap.size + 1 by omega]
  have k3 : W5.cell? ⟨p, 3, none⟩ = some (.int .i64 0) := by rw [hW5]; simp [go_sem, hp2', g3, show p < w2.heap.size + 1 by omega]
  have k4 : W5.cell? ⟨p, 4, none⟩ = some (.bool true) := by rw [hW5]; simp [go_sem, hp2', g4, show p < w2.heap.size + 1 by omega]
  have k5 : W5.cell? ⟨p, 5, none⟩ = some (.int .i64 tk) := by rw [hW5]; simp [go_sem, hp2', g5, show p < w2.heap.size + 1 by omega]
  have kf : ∀ o, W5.frozen? ⟨p, o, none⟩ = false := fun o => by rw [hW5]; simp [go_sem, hp2', gf, show p < w2.heap.size + 1 by omega]
  have hmap : OwnM W5 (w2.heap.size + 1) 0 (fun _ => none) := by
    rw [hW5]
    have := OwnM.made ((w2.setCell ⟨p, 6, none⟩ (.map (some (w2.heap.size + 1)))).alloc (.cells #[.string a.d.nm, .slice A4 2 c4, .slice none 0 0] 80))
    simpa using this
  have HMAP := Lib.hid (show OwnM W5.drew (w2.heap.size + 1) 0 (knG fun _ => false) from hmap.congr (fun x _ => rfl))
  have HV5 := Lib.hid (show RdV W5.drew (fun k => k ≠ w2.heap.size + 1) A4 2 (topV a.d.r) from RdV.frame HV4.out hf5.size (fun k hk hlt' => ⟨by omega, hf5.block k hlt' (fun e => by have : w1.heap.size ≤ k := hk; omega)⟩))
  clear hmap hW5 g0 g1 g2 g3 g4 g5 g6 gf
  have hpW : p < W5.heap.size := by omega
  go_region_with (first | (go_at_call 73; refine (addSaved_any a.d.nm 2 c4 A4 (topV a.d.r) _ (w2.heap.size + 1) 0 (fun _ => false) W5.drew HV5.out (fun k hk => hk) (fun i _ => topV_wf HSELF.out HPOS.out i) (fun i _ => by unfold topV; split <;> simp [vLeaf, VT.many, sumTo]) (by omega) HMAP.out (by omega)).mono ?_; rintro e w6 ⟨rfl, hf6, n6, hn6, ho6⟩; have HO6 := Lib.hid ho6; have HF6 := Lib.hid (show Fr (fun k => k = w2.heap.size + 1) W5 w6 from ((Fr.refl _ W5).drew).trans' hf6); clear ho6 hf6))
  all_goals
    go_wp2_with fail
    have hz6 := HF6.out.size
    have hfW : Fr (fun k => k = p) w w6 := HF5.out.trans HF6.out (fun k hk => .inr (by omega))
    obtain ⟨hd1, hd2, hd3⟩ := HH.out.dia.lt
    have hnp : p ≠ w2.heap.size + 1 := by omega
    refine bodyPost_end (results_none rfl _ _ _) rfl ⟨rfl, fun k => X k ∨ k = w2.heap.size + 1, fun k => MA k ∨ k = w2.heap.size + 1, fun k hk => .inl hk, fun k hk => ?_, fun k hk => ?_, fun k hk => ?_, ⟨b, rb, w2.heap.size + 1, ib, ?_⟩, ?_⟩
    · rcases hk with hk | hk
      · exact .inl hk
      · exact .inr ⟨by omega, by omega⟩
    · rcases hk with hk | hk
      · exact .inl hk
      · exact .inr (by omega)
    · rcases hk with hk | hk
      · exact .inl (HMX.out k hk)
      · exact .inr hk
    · exact {
        dia := HH.out.dia.fr hfW (fun k hk => hk ▸ hXp) (fun k hk => by rcases hk with hk | hk; exact .inl hk; exact .inr (by omega)) (fun k hk => hk ▸ HH.out.lbp.1) (Nat.le_refl _) (fun e => hp1 e.symm) (fun e => hp2 e.symm) (fun k hk e => (hp6 k hk).1 e)
        a0 := HF6.out.cell k0 hnp
        a1 := HF6.out.cell k1 hnp
        a2 := ⟨A3, c3, HF6.out.cell k2 hnp, m2, m3, RdL.frame HL4.out (by omega) (fun k hk hlt' => ⟨fun hx => by
          have hk' : w.heap.size ≤ k := hk
          rcases hx with hx | hx
          · have := HX.out k hx; omega
          · omega, by
          have hk' : w.heap.size ≤ k := hk
          exact (HF6.out.block k (by omega) (by omega)).trans (hf5.block k hlt' (by omega))⟩)⟩
        a3 := HF6.out.cell k3 hnp
        a4 := HF6.out.cell k4 hnp
        a5 := HF6.out.cell k5 hnp
        a6 := HF6.out.cell q6 hnp
        kn := ⟨n6, HO6.out.congr (fun x _ => by show knG (fun x => x == a.d.r.kid) x = _; congr 1; funext y; exact (anyV_top a.d.r y).symm), by omega⟩
        fz := fun o => (HF6.out.frozen hpW hnp).trans (kf o)
        mine := ⟨.inl hm1, .inl hm2, .inl hm3, .inr rfl, fun k hk => .inl (hm5 k hk)⟩
        ap := ⟨hp1, hp2, hnp, by omega, by omega, fun k hk => ⟨(hp6 k hk).1, by have := (hd3 k hk).2; omega⟩⟩
        lbp := ⟨HH.out.lbp.1, by omega⟩ }
    · exact hfW.weak (fun k hk => hk ▸ hm1)
end Go.Proofs.YtjjfglbcikaicaaGreat
namespace Go.Proofs.YtjjfglbcikaicaaGreat
open Go.RowKit
set_option linter.unusedVariables false
set_option linter.unusedSimpArgs false
/-- steps whose numbers are numbers of the machine -/
def StpsWf (l : List Stp) : Prop := ∀ s, s ∈ l → Wf s.a ∧ Wf s.b
structure ActOk (a : ActS) : Prop where
  box : BoxOk a.box a.pos
  ref : Wf a.ref
  kid : Wf a.d.r.kid
  self : a.d.r.self = a.ref
  stps : StpsWf a.d.l
  waits : a.waits = true → a.d.dk = 7
  ln : Wf a.d.r.ln
  lk : (a.d.r.over = true → a.d.r.lk = 8 ∨ a.d.r.lk = 9) ∧ (a.d.r.waiting = true → a.d.r.lk = 7)
structure RowsOk (l : List Li.LR) : Prop where
  ok : Li.OkL (rowF l) l.length
  wf : ∀ r, r ∈ l → Wf r.ref ∧ (∀ x, x ∈ r.ws → Wf x) ∧ ∀ x, x ∈ r.ls → Wf x
structure NdOk (N : NdS) : Prop where
  id : 1 ≤ N.id ∧ N.id ≤ 8
  fuel : 1 ≤ N.fuel ∧ N.fuel ≤ 10000
  len : N.acts.length ≤ 60
  srt : N.acts.Pairwise fun a b => a.ref < b.ref
  act : ∀ a, a ∈ N.acts → ActOk a
  rows : RowsOk N.rows
  spawned : N.spawned ≤ 999
  scr : ∀ l, l ∈ N.scr → StpsWf l
structure NodeG (w : World) (X : Nat → Prop) (base T p mb hb : Nat) (P : Int → Nat) (MA : Int → Nat → Prop) (ob sb : Option Nat) (N : NdS) : Prop where
  c0 : w.cell? ⟨p, 0, none⟩ = some (.int .i64 N.id)
  c1 : w.cell? ⟨p, 1, none⟩ = some (.int .i64 (N.fuel : Int))
  c2 : ∃ A c, w.cell? ⟨p, 2, none⟩ = some (.iface 25 (.slice A N.scr.length c)) ∧ ScrsAt w base A c N.scr
  c3 : w.cell? ⟨p, 3, none⟩ = some (.map (some mb))
  c4 : ∃ v, w.cell? ⟨p, 4, none⟩ = some v ∧ RowsAt w X v N.rows
  c5 : w.cell? ⟨p, 5, none⟩ = some (.map (some hb))
  c6 : w.cell? ⟨p, 6, none⟩ = some (.int .i64 (N.spawned : Int))
  c7 : w.cell? ⟨p, 7, none⟩ = some (.int .i64 N.last)
  c8 : ∃ v C, w.cell? ⟨p, 8, none⟩ = some v ∧ OutAt w X base v ob C N.out
  c9 : ∃ v, w.cell? ⟨p, 9, none⟩ = some v ∧ w.ownsRow base 63 2 v N.said.length (flatC (saidC N.said) N.said.length) ∧ v.ownBlock = sb
  fz : ∀ o, w.frozen? ⟨p, o, none⟩ = false
  am : OwnM w mb N.acts.length (fun r => if N.has r then some (.pointer (some ⟨P r, 0, none⟩)) else none)
  hm : ∃ n, OwnM w hb n (fun r => (N.homes r).map (.int .i64)) ∧ n ≤ T
  acts : ∀ a, a ∈ N.acts → ∃ b rb kb ib, ActG w X base T (MA a.ref) (P a.ref) b rb kb ib a
  disj : ∀ a b, a ∈ N.acts → b ∈ N.acts → a.ref ≠ b.ref → ∀ k, MA a.ref k → ¬ MA b.ref k
  own : ∀ a, a ∈ N.acts → ∀ k, MA a.ref k → k ≠ p ∧ k ≠ mb ∧ k ≠ hb ∧ ob ≠ some k ∧ sb ≠ some k
  ap : p ≠ mb ∧ p ≠ hb ∧ mb ≠ hb ∧ (∀ k, ob = some k → k ≠ p ∧ k ≠ mb ∧ k ≠ hb ∧ sb ≠ some k) ∧ ∀ k, sb = some k → k ≠ p ∧ k ≠ mb ∧ k ≠ hb
  lim : N.out.length + 201 * N.acts.length ≤ T ∧ N.said.length ≤ T
/-- the blocks that a node may write -/
structure Mine (M : Nat → Prop) (p mb hb : Nat) (MA : Int → Nat → Prop) (ob sb : Option Nat) (N : NdS) : Prop where
  p : M p
  mb : M mb
  hb : M hb
  ob : ∀ k, ob = some k → M k
  sb : ∀ k, sb = some k → M k
  act : ∀ a, a ∈ N.acts → ∀ k, MA a.ref k → M k
section
variable {w w' : World} {S X X' M : Nat → Prop} {base T T' p mb hb : Nat} {P : Int → Nat} {MA : Int → Nat → Prop} {ob sb : Option Nat} {N : NdS}
theorem NodeG.fr (h : NodeG w X base T p mb hb P MA ob sb N) (hm : Mine M p mb hb MA ob sb N) (hf : Fr S w w') (hS : ∀ k, S k → X k) (hX : ∀ k, X' k → X k ∨ w.heap.size ≤ k) (hb' : ∀ k, S k → base ≤ k) (hT : T ≤ T') (hM : ∀ k, M k → ¬ S k) : NodeG w' X' base T' p mb hb P MA ob sb N := by
  have hp := hM p hm.p
  obtain ⟨A2, c2, s1, s2⟩ := h.c2
  obtain ⟨v4, r1, r2⟩ := h.c4
  obtain ⟨v8, C, o1, o2⟩ := h.c8
  obtain ⟨v9, q1, q2, q3⟩ := h.c9
  obtain ⟨n, k1, k2⟩ := h.hm
  exact ⟨hf.cell h.c0 hp, hf.cell h.c1 hp, ⟨A2, c2, hf.cell s1 hp, s2.fr hf hb'⟩, hf.cell h.c3 hp, ⟨v4, hf.cell r1 hp, r2.fr hf hS hX⟩, hf.cell h.c5 hp, hf.cell h.c6 hp, hf.cell h.c7 hp, ⟨v8, C, hf.cell o1 hp, o2.fr hf hS hX (fun k hk => hM k (hm.ob k hk))⟩, ⟨v9, hf.cell q1 hp, hf.row q2 (fun k hk => hM k (hm.sb k (q3.symm.trans hk))), q3⟩,
    fun o => (hf.frozen (World.block_lt_of_cell? w _ h.c0) hp).trans (h.fz o), h.am.fr hf (hM mb hm.mb), ⟨n, k1.fr hf (hM hb hm.hb), by omega⟩, fun a ha => by
      obtain ⟨b, rb, kb, ib, ha'⟩ := h.acts a ha
      exact ⟨b, rb, kb, ib, ha'.fr hf hS hX hb' hT (fun k hk => hM k (hm.act a ha k hk))⟩, h.disj, h.own, h.ap, by have := h.lim; omega⟩
theorem NodeG.lt (h : NodeG w X base T p mb hb P MA ob sb N) : p < w.heap.size ∧ mb < w.heap.size ∧ hb < w.heap.size ∧ (∀ k, ob = some k → k < w.heap.size) ∧ ∀ k, sb = some k → k < w.heap.size := by
  obtain ⟨n, k1, k2⟩ := h.hm
  obtain ⟨v8, C, o1, o2⟩ := h.c8
  obtain ⟨v9, q1, q2, q3⟩ := h.c9
  exact ⟨World.block_lt_of_cell? w _ h.c0, h.am.lt, k1.lt, fun k hk => (o2.row.lt k (o2.blk.trans hk)).2, fun k hk => (q2.lt k (q3.trans hk)).2⟩
theorem NodeG.up (h : NodeG w X base T p mb hb P MA ob sb N) (hT : T ≤ T') : NodeG w X base T' p mb hb P MA ob sb N := by
  obtain ⟨n, k1, k2⟩ := h.hm
  exact { h with
    hm := ⟨n, k1, by omega⟩
    acts := fun a ha => by
      obtain ⟨b, rb, kb, ib, ha'⟩ := h.acts a ha
      obtain ⟨A3, n3, c3, xs, t1, t2, t3, t4, t5⟩ := ha'.dia.c3
      obtain ⟨m, m1, m2⟩ := ha'.kn
      exact ⟨b, rb, kb, ib, { ha' with dia := { ha'.dia with c3 := ⟨A3, n3, c3, xs, t1, t2, by omega, t4, t5⟩ }, kn := ⟨m, m1, by omega⟩ }⟩
    lim := by have := h.lim; omega }
end
/-- a node at block p: X, all that may be written to by anyone; M, what this node may write to -/
def NodeAt (w : World) (X M : Nat → Prop) (base T p : Nat) (P : Int → Nat) (N : NdS) : Prop :=
  NdOk N ∧ (∀ k, X k → k < w.heap.size) ∧ (∀ k, M k → X k ∧ base ≤ k) ∧ ∃ mb hb MA ob sb, NodeG w X base T p mb hb P MA ob sb N ∧ Mine M p mb hb MA ob sb N
/-- from w to w' one node has turned -/
structure Gr (X M : Nat → Prop) (w : World) (X' M' : Nat → Prop) (w' : World) : Prop where
  fr : Fr M w w'
  up : ∀ k, X k → X' k
  xs : ∀ k, X' k → X k ∨ w.heap.size ≤ k
  ms : ∀ k, M' k → M k ∨ w.heap.size ≤ k
theorem Gr.refl (X M : Nat → Prop) (w : World) : Gr X M w X M w := ⟨Fr.refl _ _, fun _ h => h, fun _ h => .inl h, fun _ h => .inl h⟩
theorem Gr.trans {X M X1 M1 X2 M2 : Nat → Prop} {w w1 w2 : World} (h : Gr X M w X1 M1 w1) (k : Gr X1 M1 w1 X2 M2 w2) : Gr X M w X2 M2 w2 := by
  have hz := h.fr.size
  refine ⟨h.fr.trans k.fr h.ms, fun i hi => k.up i (h.up i hi), fun i hi => ?_, fun i hi => ?_⟩
  · rcases k.xs i hi with hh | hh
    · exact h.xs i hh
    · exact .inr (by omega)
  · rcases k.ms i hi with hh | hh
    · exact h.ms i hh
    · exact .inr (by omega)
theorem NodeAt.fr {w w' : World} {S X X' M : Nat → Prop} {base T p : Nat} {P : Int → Nat} {N : NdS} (h : NodeAt w X M base T p P N) (hf : Fr S w w') (hS : ∀ k, S k → X k ∧ base ≤ k) (hx : ∀ k, X k → X' k) (hX : ∀ k, X' k → X k ∨ w.heap.size ≤ k ∧ k < w'.heap.size) (hM : ∀ k, M k → ¬ S k) : NodeAt w' X' M base T p P N := by
  obtain ⟨h1, h2, h3, mb, hb, MA, ob, sb, h4, h5⟩ := h
  refine ⟨h1, fun k hk => ?_, fun k hk => ⟨hx k (h3 k hk).1, (h3 k hk).2⟩, mb, hb, MA, ob, sb, h4.fr h5 hf (fun k hk => (hS k hk).1) (fun k hk => by rcases hX k hk with h | h; exact .inl h; exact .inr h.1) (fun k hk => (hS k hk).2) (Nat.le_refl _) hM, h5⟩
  rcases hX k hk with h | h
  · exact Nat.lt_of_lt_of_le (h2 k h) hf.size
  · exact h.2
/-- what a method of a node makes of it -/
def NdPost (X M : Nat → Prop) (base T p : Nat) (P : Int → Nat) (N' : NdS) (w : World) (v : Value) (e : Ending) (w' : World) : Prop :=
  e = .returned v ∧ ∃ X' M', Gr X M w X' M' w' ∧ NodeAt w' X' M' base T p P N'
end Go.Proofs.YtjjfglbcikaicaaGreat
namespace Go.Proofs.YtjjfglbcikaicaaGreat
open Go.RowKit
set_option linter.unusedVariables false
set_option linter.unusedSimpArgs false
section
variable {w w' : World} {S X X' M : Nat → Prop} {base T T' p mb hb : Nat} {P : Int → Nat} {MA : Int → Nat → Prop} {ob sb : Option Nat} {N : NdS}
/-- what lies apart from a node's own block -/
structure Rest (w : World) (X : Nat → Prop) (base T p mb hb : Nat) (P : Int → Nat) (MA : Int → Nat → Prop) (ob sb : Option Nat) (N : NdS) : Prop where
  am : OwnM w mb N.acts.length (fun r => if N.has r then some (.pointer (some ⟨P r, 0, none⟩)) else none)
  hm : ∃ n, OwnM w hb n (fun r => (N.homes r).map (.int .i64)) ∧ n ≤ T
  acts : ∀ a, a ∈ N.acts → ∃ b rb kb ib, ActG w X base T (MA a.ref) (P a.ref) b rb kb ib a
theorem NodeG.rest (h : NodeG w X base T p mb hb P MA ob sb N) (hf : Fr S w w') (hS : ∀ k, S k → X k ∧ base ≤ k) (hX : ∀ k, X' k → X k ∨ w.heap.size ≤ k) (hT : T ≤ T') (hM : ∀ k, S k → k = p ∨ ob = some k ∨ sb = some k) : Rest w' X' base T' p mb hb P MA ob sb N := by
  obtain ⟨a1, a2, a3, a4, a5⟩ := h.ap
  obtain ⟨l1, l2, l3, l4, l5⟩ := h.lt
  obtain ⟨n, k1, k2⟩ := h.hm
  have hm : ¬ S mb := fun hs => by
    rcases hM mb hs with e | e | e
    · exact a1 e.symm
    · exact (a4 _ e).2.1 rfl
    · exact (a5 _ e).2.1 rfl
  have hh : ¬ S hb := fun hs => by
    rcases hM hb hs with e | e | e
    · exact a2 e.symm
    · exact (a4 _ e).2.2.1 rfl
    · exact (a5 _ e).2.2 rfl
  refine ⟨h.am.fr hf hm, ⟨n, k1.fr hf hh, by omega⟩, fun a ha => ?_⟩
  obtain ⟨b, rb, kb, ib, ha'⟩ := h.acts a ha
  refine ⟨b, rb, kb, ib, ha'.fr hf (fun k hk => (hS k hk).1) hX (fun k hk => (hS k hk).2) hT (fun k hk hs => ?_)⟩
  obtain ⟨o1, o2, o3, o4, o5⟩ := h.own a ha k hk
  rcases hM k hs with e | e | e
  · exact o1 e
  · exact o4 e
  · exact o5 e
/-- a store into the node's own block leaves the others -/
theorem set_other {b i o : Nat} {u v : Value} (h : w.cell? ⟨b, o, none⟩ = some v) (hne : o ≠ i) : (w.setCell ⟨b, i, none⟩ u).cell? ⟨b, o, none⟩ = some v := by
  rw [← h]
  simp [go_sem]
  first | done | (intro e; exact absurd e.symm (by omega)) | omega
theorem set_this {b i : Nat} {u v : Value} (h : w.cell? ⟨b, i, none⟩ = some v) : (w.setCell ⟨b, i, none⟩ u).cell? ⟨b, i, none⟩ = some u := by
  simp [go_sem, h]
theorem set_fz {b i : Nat} {u : Value} (h : ∀ o, w.frozen? ⟨b, o, none⟩ = false) : ∀ o, (w.setCell ⟨b, i, none⟩ u).frozen? ⟨b, o, none⟩ = false := fun o => by simp [go_sem, h]
theorem NodeG.set4 (h : NodeG w X base T p mb hb P MA ob sb N) (hp : X p ∧ base ≤ p) {v : Value} {rows : List Li.LR} (hr : RowsAt w X v rows) : NodeG (w.setCell ⟨p, 4, none⟩ v) X base T p mb hb P MA ob sb { N with rows := rows } := by
  have hf : Fr (fun k => k = p) w (w.setCell ⟨p, 4, none⟩ v) := Fr.setAt (Fr.refl _ w) v
  have hS : ∀ k, k = p → X k ∧ base ≤ k := fun k hk => hk ▸ hp
  have R := h.rest (X' := X) hf hS (fun k hk => .inl hk) (Nat.le_refl _) (fun k hk => .inl hk)
  obtain ⟨A2, c2, s1, s2⟩ := h.c2
  obtain ⟨v4, r1, r2⟩ := h.c4
  obtain ⟨v8, C, o1, o2⟩ := h.c8
  obtain ⟨v9, q1, q2, q3⟩ := h.c9
  exact ⟨set_other h.c0 (by decide), set_other h.c1 (by decide), ⟨A2, c2, set_other s1 (by decide), s2.fr hf (fun k hk => (hS k hk).2)⟩, set_other h.c3 (by decide), ⟨v, set_this r1, hr.fr hf (fun k hk => (hS k hk).1) (fun k hk => .inl hk)⟩, set_other h.c5 (by decide), set_other h.c6 (by decide), set_other h.c7 (by decide),
    ⟨v8, C, set_other o1 (by decide), o2.fr hf (fun k hk => (hS k hk).1) (fun k hk => .inl hk) (fun k hk hs => (h.ap.2.2.2.1 k hk).1 hs)⟩, ⟨v9, set_other q1 (by decide), hf.row q2 (fun k hk hs => (h.ap.2.2.2.2 k (q3.symm.trans hk)).1 hs), q3⟩, set_fz h.fz, R.am, R.hm, R.acts, h.disj, h.own, h.ap, h.lim⟩
theorem NodeG.set6 (h : NodeG w X base T p mb hb P MA ob sb N) (hp : X p ∧ base ≤ p) {k' : Nat} {i : Int} (hi : i = (k' : Int)) : NodeG (w.setCell ⟨p, 6, none⟩ (.int .i64 i)) X base T p mb hb P MA ob sb { N with spawned := k' } := by
  subst hi
  have hf : Fr (fun k => k = p) w (w.setCell ⟨p, 6, none⟩ (.int .i64 (k' : Int))) := Fr.setAt (Fr.refl _ w) _
  have hS : ∀ k, k = p → X k ∧ base ≤ k := fun k hk => hk ▸ hp
  have R := h.rest (X' := X) hf hS (fun k hk => .inl hk) (Nat.le_refl _) (fun k hk => .inl hk)
  obtain ⟨A2, c2, s1, s2⟩ := h.c2
  obtain ⟨v4, r1, r2⟩ := h.c4
  obtain ⟨v8, C, o1, o2⟩ := h.c8
  obtain ⟨v9, q1, q2, q3⟩ := h.c9
  exact ⟨set_other h.c0 (by decide), set_other h.c1 (by decide), ⟨A2, c2, set_other s1 (by decide), s2.fr hf (fun k hk => (hS k hk).2)⟩, set_other h.c3 (by decide), ⟨v4, set_other r1 (by decide), r2.fr hf (fun k hk => (hS k hk).1) (fun k hk => .inl hk)⟩, set_other h.c5 (by decide), set_this h.c6, set_other h.c7 (by decide),
    ⟨v8, C, set_other o1 (by decide), o2.fr hf (fun k hk => (hS k hk).1) (fun k hk => .inl hk) (fun k hk hs => (h.ap.2.2.2.1 k hk).1 hs)⟩, ⟨v9, set_other q1 (by decide), hf.row q2 (fun k hk hs => (h.ap.2.2.2.2 k (q3.symm.trans hk)).1 hs), q3⟩, set_fz h.fz, R.am, R.hm, R.acts, h.disj, h.own, h.ap, h.lim⟩
theorem NodeG.set7 (h : NodeG w X base T p mb hb P MA ob sb N) (hp : X p ∧ base ≤ p) (l : Int) : NodeG (w.setCell ⟨p, 7, none⟩ (.int .i64 l)) X base T p mb hb P MA ob sb { N with last := l } := by
  have hf : Fr (fun k => k = p) w (w.setCell ⟨p, 7, none⟩ (.int .i64 l)) := Fr.setAt (Fr.refl _ w) _
  have hS : ∀ k, k = p → X k ∧ base ≤ k := fun k hk => hk ▸ hp
  have R := h.rest (X' := X) hf hS (fun k hk => .inl hk) (Nat.le_refl _) (fun k hk => .inl hk)
  obtain ⟨A2, c2, s1, s2⟩ := h.c2
  obtain ⟨v4, r1, r2⟩ := h.c4
  obtain ⟨v8, C, o1, o2⟩ := h.c8
  obtain ⟨v9, q1, q2, q3⟩ := h.c9
  exact ⟨set_other h.c0 (by decide), set_other h.c1 (by decide), ⟨A2, c2, set_other s1 (by decide), s2.fr hf (fun k hk => (hS k hk).2)⟩, set_other h.c3 (by decide), ⟨v4, set_other r1 (by decide), r2.fr hf (fun k hk => (hS k hk).1) (fun k hk => .inl hk)⟩, set_other h.c5 (by decide), set_other h.c6 (by decide), set_this h.c7,
    ⟨v8, C, set_other o1 (by decide), o2.fr hf (fun k hk => (hS k hk).1) (fun k hk => .inl hk) (fun k hk hs => (h.ap.2.2.2.1 k hk).1 hs)⟩, ⟨v9, set_other q1 (by decide), hf.row q2 (fun k hk hs => (h.ap.2.2.2.2 k (q3.symm.trans hk)).1 hs), q3⟩, set_fz h.fz, R.am, R.hm, R.acts, h.disj, h.own, h.ap, h.lim⟩
/-- the row of what was said has grown (block g), and the node has it -/
theorem NodeG.set9 (h : NodeG w X base T p mb hb P MA ob sb N) (hm : Mine M p mb hb MA ob sb N) (hMX : ∀ k, M k → X k ∧ base ≤ k) (hXl : ∀ k, X k → k < w.heap.size) {v : Value} {g : Nat} {x : Int × Int} (hf : Fr (fun k => sb = some k) w w') (hg : v.ownBlock = some g) (hgs : sb = some g ∨ w.heap.size ≤ g)
    (hr : w'.ownsRow base 63 2 v (N.said ++ [x]).length (flatC (saidC (N.said ++ [x])) (N.said ++ [x]).length)) (hT : N.said.length + 1 ≤ T') (hTT : T ≤ T') : NodeG (w'.setCell ⟨p, 9, none⟩ v) (fun k => X k ∨ k = g) base T' p mb hb P MA ob (some g) { N with said := N.said ++ [x] } := by
  have hf1 : Fr (fun k => sb = some k ∨ k = p) w (w'.setCell ⟨p, 9, none⟩ v) := (hf.weak (fun _ h => .inl h)).set (.inl (.inr rfl)) v
  have hS : ∀ k, (sb = some k ∨ k = p) → X k ∧ base ≤ k := fun k hk => by
    rcases hk with hk | hk
    · exact hMX k (hm.sb k hk)
    · exact hk ▸ hMX p hm.p
  have hX' : ∀ k, (X k ∨ k = g) → X k ∨ w.heap.size ≤ k := fun k hk => by
    rcases hk with hk | hk
    · exact .inl hk
    · subst hk
      rcases hgs with e | e
      · exact .inl (hMX k (hm.sb k e)).1
      · exact .inr e
  have R := h.rest (X' := fun k => X k ∨ k = g) hf1 hS hX' hTT (fun k hk => by rcases hk with h | h; exact .inr (.inr h); exact .inl h)
  have hp : ¬ sb = some p := fun e => (h.ap.2.2.2.2 p e).1 rfl
  have hgp : g ≠ p := fun e => by
    subst e
    rcases hgs with e | e
    · exact hp e
    · have := h.lt.1; omega
  obtain ⟨A2, c2, s1, s2⟩ := h.c2
  obtain ⟨v4, r1, r2⟩ := h.c4
  obtain ⟨v8, C, o1, o2⟩ := h.c8
  obtain ⟨v9, q1, q2, q3⟩ := h.c9
  obtain ⟨a1, a2, a3, a4, a5⟩ := h.ap
  have hl := h.lt
  refine ⟨set_other (hf.cell h.c0 hp) (by decide), set_other (hf.cell h.c1 hp) (by decide), ⟨A2, c2, set_other (hf.cell s1 hp) (by decide), s2.fr hf1 (fun k hk => (hS k hk).2)⟩, set_other (hf.cell h.c3 hp) (by decide), ⟨v4, set_other (hf.cell r1 hp) (by decide), r2.fr hf1 (fun k hk => (hS k hk).1) hX'⟩, set_other (hf.cell h.c5 hp) (by decide), set_other (hf.cell h.c6 hp) (by decide), set_other (hf.cell h.c7 hp) (by decide),
    ⟨v8, C, set_other (hf.cell o1 hp) (by decide), o2.fr hf1 (fun k hk => (hS k hk).1) hX' (fun k hk hs => ?_)⟩, ⟨v, set_this (hf.cell q1 hp), Fr.row (S := fun k => k = p) (Fr.setAt (Fr.refl _ w') v) hr (fun k hk hs => ?_), hg⟩, set_fz (fun o => (hf.frozen hl.1 hp).trans (h.fz o)), R.am, R.hm, R.acts, h.disj, fun a ha k hk => ?_, ⟨a1, a2, a3, fun k hk => ?_, fun k hk => ?_⟩, ?_⟩
  · obtain ⟨b1, b2, b3, b4⟩ := a4 k hk
    rcases hs with hs | hs
    · exact b4 hs
    · exact b1 hs
  · rw [hg] at hk
    injection hk with hk
    exact hgp (hk.trans hs)
  · obtain ⟨o1, o2, o3, o4, o5⟩ := h.own a ha k hk
    refine ⟨o1, o2, o3, o4, fun e => ?_⟩
    injection e with e
    subst e
    rcases hgs with e | e
    · exact o5 e
    · have := hXl g (hMX g (hm.act a ha g hk)).1
      omega
  · obtain ⟨b1, b2, b3, b4⟩ := a4 k hk
    refine ⟨b1, b2, b3, fun e => ?_⟩
    injection e with e
    subst e
    rcases hgs with e | e
    · exact b4 e
    · have := hl.2.2.2.1 g hk; omega
  · injection hk with hk
    subst hk
    rcases hgs with e | e
    · exact a5 g e
    · exact ⟨hgp, by omega, by omega⟩
  · have := h.lim
    exact ⟨by show N.out.length + 201 * N.acts.length ≤ T'; omega, by simpa using hT⟩
/-- the row of what goes out has grown (block g), and the node has it -/
theorem NodeG.set8 (h : NodeG w X base T p mb hb P MA ob sb N) (hm : Mine M p mb hb MA ob sb N) (hMX : ∀ k, M k → X k ∧ base ≤ k) (hXl : ∀ k, X k → k < w.heap.size) {v : Value} {g : Nat} {l' : List LT} {C : Nat → List Value} (hf : Fr (fun k => ob = some k) w w') (hgs : ob = some g ∨ w.heap.size ≤ g)
    (hr : OutAt w' (fun k => X k ∨ k = g) base v (some g) C l') (hT : l'.length + 201 * N.acts.length ≤ T') (hTT : T ≤ T') : NodeG (w'.setCell ⟨p, 8, none⟩ v) (fun k => X k ∨ k = g) base T' p mb hb P MA (some g) sb { N with out := l' } := by
  have hf1 : Fr (fun k => ob = some k ∨ k = p) w (w'.setCell ⟨p, 8, none⟩ v) := (hf.weak (fun _ h => .inl h)).set (.inl (.inr rfl)) v
  have hS : ∀ k, (ob = some k ∨ k = p) → X k ∧ base ≤ k := fun k hk => by
    rcases hk with hk | hk
    · exact hMX k (hm.ob k hk)
    · exact hk ▸ hMX p hm.p
  have hX' : ∀ k, (X k ∨ k = g) → X k ∨ w.heap.size ≤ k := fun k hk => by
    rcases hk with hk | hk
    · exact .inl hk
    · subst hk
      rcases hgs with e | e
      · exact .inl (hMX k (hm.ob k e)).1
      · exact .inr e
  have R := h.rest (X' := fun k => X k ∨ k = g) hf1 hS hX' hTT (fun k hk => by rcases hk with h | h; exact .inr (.inl h); exact .inl h)
  have hp : ¬ ob = some p := fun e => (h.ap.2.2.2.1 p e).1 rfl
  have hgp : g ≠ p := fun e => by
    subst e
    rcases hgs with e | e
    · exact hp e
    · have := h.lt.1; omega
  obtain ⟨A2, c2, s1, s2⟩ := h.c2
  obtain ⟨v4, r1, r2⟩ := h.c4
  obtain ⟨v8, C8, o1, o2⟩ := h.c8
  obtain ⟨v9, q1, q2, q3⟩ := h.c9
  obtain ⟨a1, a2, a3, a4, a5⟩ := h.ap
  have hl := h.lt
  have hf2 : Fr (fun k => k = p) w' (w'.setCell ⟨p, 8, none⟩ v) := Fr.setAt (Fr.refl _ w') v
  refine ⟨set_other (hf.cell h.c0 hp) (by decide), set_other (hf.cell h.c1 hp) (by decide), ⟨A2, c2, set_other (hf.cell s1 hp) (by decide), s2.fr hf1 (fun k hk => (hS k hk).2)⟩, set_other (hf.cell h.c3 hp) (by decide), ⟨v4, set_other (hf.cell r1 hp) (by decide), r2.fr hf1 (fun k hk => (hS k hk).1) hX'⟩, set_other (hf.cell h.c5 hp) (by decide), set_other (hf.cell h.c6 hp) (by decide), set_other (hf.cell h.c7 hp) (by decide),
    ⟨v, C, set_this (hf.cell o1 hp), hr.fr hf2 (fun k hk => hk ▸ .inl (hMX p hm.p).1) (fun k hk => .inl hk) (fun k hk hs => ?_)⟩, ⟨v9, set_other (hf.cell q1 hp) (by decide), hf1.row q2 (fun k hk hs => ?_), q3⟩, set_fz (fun o => (hf.frozen hl.1 hp).trans (h.fz o)), R.am, R.hm, R.acts, h.disj, fun a ha k hk => ?_, ⟨a1, a2, a3, fun k hk => ?_, fun k hk => ?_⟩, ?_⟩
  · injection hk with hk
    exact hgp (hk.trans hs)
  · have e := q3.symm.trans hk
    rcases hs with hs | hs
    · exact (a4 k hs).2.2.2 e
    · exact (a5 k e).1 hs
  · obtain ⟨o1, o2, o3, o4, o5⟩ := h.own a ha k hk
    refine ⟨o1, o2, o3, fun e => ?_, o5⟩
    injection e with e
    subst e
    rcases hgs with e | e
    · exact o4 e
    · have := hXl g (hMX g (hm.act a ha g hk)).1
      omega
  · injection hk with hk
    subst hk
    rcases hgs with e | e
    · exact a4 g e
    · refine ⟨hgp, by omega, by omega, fun e2 => ?_⟩
      have := hl.2.2.2.2 g e2
      omega
  · exact a5 k hk
  · have := h.lim
    exact ⟨hT, by show N.said.length ≤ T'; omega⟩
end
end Go.Proofs.YtjjfglbcikaicaaGreat
namespace Go.Proofs.YtjjfglbcikaicaaGreat
open Go.RowKit
set_option linter.unusedVariables false
set_option linter.unusedSimpArgs false
section
variable {N : NdS}
theorem find_some {r : Int} {a : ActS} (h : N.find r = some a) : a ∈ N.acts ∧ a.ref = r := by
  unfold NdS.find at h
  exact ⟨List.mem_of_find?_eq_some h, by simpa using List.find?_some h⟩
theorem has_iff {r : Int} : N.has r = true ↔ ∃ a, a ∈ N.acts ∧ a.ref = r := by
  unfold NdS.has NdS.find
  rw [List.find?_isSome]
  constructor
  · rintro ⟨a, h1, h2⟩; exact ⟨a, h1, by simpa using h2⟩
  · rintro ⟨a, h1, h2⟩; exact ⟨a, h1, by simpa using h2⟩
theorem srt_uniq (h : N.acts.Pairwise fun a b => a.ref < b.ref) : ∀ a b, a ∈ N.acts → b ∈ N.acts → a.ref = b.ref → a = b := by
  generalize N.acts = l at h
  induction l with
  | nil => intro a b h; cases h
  | cons x l ih =>
    rw [List.pairwise_cons] at h
    intro a b ha hb e
    rcases List.mem_cons.1 ha with h1 | h1
    · rcases List.mem_cons.1 hb with h2 | h2
      · rw [h1, h2]
      · have := h.1 b h2; rw [h1] at e; omega
    · rcases List.mem_cons.1 hb with h2 | h2
      · have := h.1 a h1; rw [h2] at e; omega
      · exact ih h.2 a b h1 h2 e
theorem find_of_mem (h : N.acts.Pairwise fun a b => a.ref < b.ref) {a : ActS} (ha : a ∈ N.acts) : N.find a.ref = some a := by
  have h1 : N.has a.ref = true := has_iff.2 ⟨a, ha, rfl⟩
  unfold NdS.has at h1
  obtain ⟨b, hb⟩ := Option.isSome_iff_exists.1 h1
  obtain ⟨h2, h3⟩ := find_some hb
  rw [hb, srt_uniq h b a h2 ha h3]
theorem mem_setA {a' b : ActS} : b ∈ (N.setA a').acts ↔ (∃ c, c ∈ N.acts ∧ c.ref = a'.ref ∧ b = a') ∨ (b ∈ N.acts ∧ b.ref ≠ a'.ref) := by
  unfold NdS.setA
  simp only [List.mem_map]
  constructor
  · rintro ⟨c, hc, rfl⟩
    by_cases e : c.ref = a'.ref
    · exact .inl ⟨c, hc, e, by simp [e]⟩
    · have : (c.ref == a'.ref) = false := by simpa using e
      rw [this]
      exact .inr ⟨hc, e⟩
  · rintro (⟨c, hc, e, rfl⟩ | ⟨hb, e⟩)
    · exact ⟨c, hc, by simp [e]⟩
    · exact ⟨b, hb, by
        have : (b.ref == a'.ref) = false := by simpa using e
        rw [this]; rfl⟩
theorem len_setA (a' : ActS) : (N.setA a').acts.length = N.acts.length := by unfold NdS.setA; simp
theorem refs_setA (a' : ActS) : (N.setA a').acts.map (·.ref) = N.acts.map (·.ref) := by
  unfold NdS.setA
  simp only [List.map_map]
  apply List.map_congr_left
  intro b _
  show (if b.ref == a'.ref then a' else b).ref = b.ref
  split
  · rename_i h; exact (by simpa using h : b.ref = a'.ref).symm
  · rfl
theorem has_refs {M : NdS} (h : M.acts.map (·.ref) = N.acts.map (·.ref)) (r : Int) : M.has r = N.has r := by
  rw [Bool.eq_iff_iff, has_iff, has_iff]
  constructor
  · rintro ⟨a, h1, rfl⟩
    have : a.ref ∈ M.acts.map (·.ref) := List.mem_map.2 ⟨a, h1, rfl⟩
    rw [h] at this
    obtain ⟨b, hb, e⟩ := List.mem_map.1 this
    exact ⟨b, hb, e⟩
  · rintro ⟨a, h1, rfl⟩
    have : a.ref ∈ N.acts.map (·.ref) := List.mem_map.2 ⟨a, h1, rfl⟩
    rw [← h] at this
    obtain ⟨b, hb, e⟩ := List.mem_map.1 this
    exact ⟨b, hb, e⟩
theorem has_setA (a' : ActS) (r : Int) : (N.setA a').has r = N.has r := has_refs (refs_setA a') r
theorem srt_refs {l l' : List ActS} (h : l'.map (·.ref) = l.map (·.ref)) (hs : l.Pairwise fun a b => a.ref < b.ref) : l'.Pairwise fun a b => a.ref < b.ref := by
  have h1 : (l.map (·.ref)).Pairwise (· < ·) := List.pairwise_map.2 hs
  rw [← h] at h1
  exact List.pairwise_map.1 h1
theorem mem_delA {r : Int} {b : ActS} : b ∈ (N.delA r).acts ↔ b ∈ N.acts ∧ b.ref ≠ r := by
  unfold NdS.delA
  simp [List.mem_filter]
theorem has_delA (r x : Int) : (N.delA r).has x = (if x = r then false else N.has x) := by
  by_cases e : x = r
  · subst e
    rw [if_pos rfl]
    rcases h : (N.delA x).has x with _ | _
    · rfl
    · obtain ⟨a, h1, h2⟩ := has_iff.1 h
      exact absurd h2 (mem_delA.1 h1).2
  · rw [if_neg e, Bool.eq_iff_iff, has_iff, has_iff]
    constructor
    · rintro ⟨a, h1, h2⟩; exact ⟨a, (mem_delA.1 h1).1, h2⟩
    · rintro ⟨a, h1, h2⟩; exact ⟨a, mem_delA.2 ⟨h1, by omega⟩, h2⟩
theorem len_delA (hs : N.acts.Pairwise fun a b => a.ref < b.ref) {r : Int} (h : N.has r = true) : (N.delA r).acts.length + 1 = N.acts.length := by
  obtain ⟨a, ha, hr⟩ := has_iff.1 h
  unfold NdS.delA
  show (N.acts.filter fun a => !(a.ref == r)).length + 1 = _
  clear h
  generalize N.acts = l at hs ha
  induction l with
  | nil => cases ha
  | cons x l ih =>
    rw [List.pairwise_cons] at hs
    rcases List.mem_cons.1 ha with rfl | ha
    · have : (l.filter fun b => !(b.ref == r)) = l := by
        rw [List.filter_eq_self]
        intro b hb
        have := hs.1 b hb
        simp; omega
      rw [List.filter_cons_of_neg (by simp [hr]), this, List.length_cons]
    · have := hs.1 a ha
      rw [List.filter_cons_of_pos (by simp; omega), List.length_cons, List.length_cons, ih hs.2 ha]
theorem mem_insA {a b : ActS} : ∀ {l : List ActS}, b ∈ insA a l ↔ b = a ∨ b ∈ l
  | [] => by simp [insA]
  | x :: l => by
    unfold insA
    split
    · simp
    · simp only [List.mem_cons, mem_insA (l := l)]
      constructor
      · rintro (h | h | h); exact .inr (.inl h); exact .inl h; exact .inr (.inr h)
      · rintro (h | h | h); exact .inr (.inl h); exact .inl h; exact .inr (.inr h)
theorem len_insA (a : ActS) : ∀ l : List ActS, (insA a l).length = l.length + 1
  | [] => rfl
  | x :: l => by
    unfold insA
    split
    · rfl
    · simp [len_insA a l]
theorem srt_insA {a : ActS} : ∀ {l : List ActS}, l.Pairwise (fun a b => a.ref < b.ref) → (∀ b, b ∈ l → b.ref ≠ a.ref) → (insA a l).Pairwise fun a b => a.ref < b.ref
  | [], _, _ => List.pairwise_singleton _ _
  | x :: l, h, hn => by
    unfold insA
    rw [List.pairwise_cons] at h
    split
    · rename_i hlt
      rw [List.pairwise_cons]
      refine ⟨fun b hb => ?_, List.pairwise_cons.2 h⟩
      rcases List.mem_cons.1 hb with rfl | hb
      · exact hlt
      · have := h.1 b hb; omega
    · rename_i hlt
      rw [List.pairwise_cons]
      refine ⟨fun b hb => ?_, srt_insA h.2 (fun b hb => hn b (List.mem_cons_of_mem _ hb))⟩
      rcases mem_insA.1 hb with rfl | hb
      · have := hn x (List.mem_cons_self ..); omega
      · exact h.1 b hb
end
section
variable {w w' : World} {X X' M : Nat → Prop} {base T T' p mb hb : Nat} {P : Int → Nat} {MA : Int → Nat → Prop} {ob sb : Option Nat} {N : NdS}
/-- one actor has turned -/
theorem NodeG.setA (h : NodeG w X base T p mb hb P MA ob sb N) (hs : N.acts.Pairwise fun a b => a.ref < b.ref) (hm : Mine M p mb hb MA ob sb N) (hMX : ∀ k, M k → X k ∧ base ≤ k) (hXl : ∀ k, X k → k < w.heap.size) {a a' : ActS} {b rb kb : Nat} {ib : Option Nat} {MA' : Nat → Prop} (ha : a ∈ N.acts) (hf : Fr (MA a.ref) w w') (hXX : ∀ k, X k → X' k) (hX : ∀ k, X' k → X k ∨ w.heap.size ≤ k) (hT : T ≤ T')
    (ha' : ActG w' X' base T' MA' (P a.ref) b rb kb ib a') (hM' : ∀ k, MA' k → MA a.ref k ∨ w.heap.size ≤ k) (hr : a'.ref = a.ref) : NodeG w' X' base T' p mb hb P (fun r => if r = a.ref then MA' else MA r) ob sb (N.setA a') := by
  have hS : ∀ k, MA a.ref k → X k ∧ base ≤ k := fun k hk => hMX k (hm.act a ha k hk)
  have ho := h.own a ha
  have hl := h.lt
  have hp : ¬ MA a.ref p := fun e => (ho p e).1 rfl
  obtain ⟨A2, c2, s1, s2⟩ := h.c2
  obtain ⟨v4, r1, r2⟩ := h.c4
  obtain ⟨v8, C, o1, o2⟩ := h.c8
  obtain ⟨v9, q1, q2, q3⟩ := h.c9
  obtain ⟨n, k1, k2⟩ := h.hm
  refine ⟨hf.cell h.c0 hp, hf.cell h.c1 hp, ⟨A2, c2, hf.cell s1 hp, s2.fr hf (fun k hk => (hS k hk).2)⟩, hf.cell h.c3 hp, ⟨v4, hf.cell r1 hp, r2.fr hf (fun k hk => (hS k hk).1) hX⟩, hf.cell h.c5 hp, hf.cell h.c6 hp, hf.cell h.c7 hp, ⟨v8, C, hf.cell o1 hp, o2.fr hf (fun k hk => (hS k hk).1) hX (fun k hk hs => (ho k hs).2.2.2.1 hk)⟩, ⟨v9, hf.cell q1 hp, hf.row q2 (fun k hk hs => (ho k hs).2.2.2.2 (q3.symm.trans hk)), q3⟩,
    fun o => (hf.frozen hl.1 hp).trans (h.fz o), ?_, ⟨n, k1.fr hf (fun e => (ho hb e).2.2.1 rfl), by omega⟩, fun c hc => ?_, fun c d hc hd hne k hk => ?_, fun c hc k hk => ?_, h.ap, ?_⟩
  · rw [len_setA]
    refine (h.am.fr hf (fun e => (ho mb e).2.1 rfl)).congr (fun x _ => ?_)
    rw [has_setA]
  · rcases mem_setA.1 hc with ⟨c', hc1, hc2, rfl⟩ | ⟨hc1, hc2⟩
    · rw [hr, if_pos rfl]
      exact ⟨b, rb, kb, ib, ha'⟩
    · rw [hr] at hc2
      rw [if_neg hc2]
      obtain ⟨b1, rb1, kb1, ib1, hh⟩ := h.acts c hc1
      exact ⟨b1, rb1, kb1, ib1, hh.fr hf (fun k hk => (hS k hk).1) hX (fun k hk => (hS k hk).2) hT (fun k hk hs => h.disj c a hc1 ha hc2 k hk hs)⟩
  · have key : ∀ c : ActS, c ∈ (N.setA a').acts → ∀ k, (if c.ref = a.ref then MA' else MA c.ref) k → (∃ c', c' ∈ N.acts ∧ c'.ref = c.ref ∧ MA c'.ref k) ∨ (c.ref = a.ref ∧ w.heap.size ≤ k) := fun c hc k hk => by
      by_cases e : c.ref = a.ref
      · rw [if_pos e] at hk
        rcases hM' k hk with hh | hh
        · exact .inl ⟨a, ha, e.symm, hh⟩
        · exact .inr ⟨e, hh⟩
      · rw [if_neg e] at hk
        rcases mem_setA.1 hc with ⟨c', hc1, hc2, rfl⟩ | ⟨hc1, hc2⟩
        · exact absurd hr e
        · exact .inl ⟨c, hc1, rfl, hk⟩
    intro hk2
    have lt : ∀ c' : ActS, c' ∈ N.acts → ∀ k, MA c'.ref k → k < w.heap.size := fun c' hc' k hk => hXl k (hMX k (hm.act c' hc' k hk)).1
    rcases key c hc k hk with ⟨c1, g1, g2, g3⟩ | ⟨g1, g2⟩
    · rcases key d hd k hk2 with ⟨d1, f1, f2, f3⟩ | ⟨f1, f2⟩
      · exact h.disj c1 d1 g1 f1 (by rw [g2, f2]; exact hne) k g3 f3
      · have := lt c1 g1 k g3; omega
    · rcases key d hd k hk2 with ⟨d1, f1, f2, f3⟩ | ⟨f1, f2⟩
      · have := lt d1 f1 k f3; omega
      · exact hne (g1.trans f1.symm)
  · rcases mem_setA.1 hc with ⟨c', hc1, hc2, rfl⟩ | ⟨hc1, hc2⟩
    · rw [hr, if_pos rfl] at hk
      rcases hM' k hk with hh | hh
      · exact ho k hh
      · exact ⟨by omega, by omega, by omega, fun e => by have := hl.2.2.2.1 k e; omega, fun e => by have := hl.2.2.2.2 k e; omega⟩
    · rw [hr] at hc2
      rw [if_neg hc2] at hk
      exact h.own c hc1 k hk
  · rw [len_setA]
    have := h.lim
    exact ⟨by show N.out.length + _ ≤ T'; omega, by show N.said.length ≤ T'; omega⟩
end
end Go.Proofs.YtjjfglbcikaicaaGreat
namespace Go.Proofs.YtjjfglbcikaicaaGreat
open Go.RowKit
set_option linter.unusedVariables false
set_option linter.unusedSimpArgs false
theorem OwnL.congr {w : World} {base n : Nat} {v : Value} {R R' : Nat → Li.LR} {vw vl : Nat → Value} (h : Li.OwnL w base v n R vw vl) (e : ∀ i, i < n → R' i = R i) : Li.OwnL w base v n R' vw vl := by
  have h1 : flatC (Li.rwC R' vw vl) n = flatC (Li.rwC R vw vl) n := flatC_congr fun k hk => by unfold Li.rwC; rw [e k hk]
  refine ⟨by rw [h1]; exact h.row, fun k hk s => ?_, h.apart, h.outer⟩
  have := h.each k hk s
  unfold Li.il at this ⊢
  rw [e k hk]
  exact this
theorem rowsAt_of {w : World} {X : Nat → Prop} {B n : Nat} {v : Value} {A : Option Addr} {c : Nat} {R : Nat → Li.LR} {vw vl : Nat → Value} {rows : List Li.LR} (h : Li.OwnL w B v n R vw vl) (hX : ∀ k, X k → k < B) (hv : v = .slice A n c) (hn : rows.length = n) (e : ∀ i, i < n → rowF rows i = R i) : RowsAt w X v rows := by
  subst hn
  refine ⟨A, c, vw, vl, hv, (OwnL.congr h e).mono (Nat.zero_le _), fun k hk hx => ?_, fun i hi s k hk hx => ?_⟩
  · have := (h.row.lt k hk).1; have := hX k hx; omega
  · have := ((h.each i hi s).lt k hk).1; have := hX k hx; omega
theorem rowF_get {rows : List Li.LR} {i : Nat} (h : i < rows.length) : rowF rows i = rows[i] := by
  unfold rowF
  rw [List.getD_eq_getElem?_getD, List.getElem?_eq_getElem h]
  rfl
theorem rowF_map {rows : List Li.LR} (f : Li.LR → Li.LR) {i : Nat} (h : i < rows.length) : rowF (rows.map f) i = f (rowF rows i) := by
  rw [rowF_get (by simpa using h), rowF_get h, List.getElem_map]
theorem rowF_mem {rows : List Li.LR} {i : Nat} (h : i < rows.length) : rowF rows i ∈ rows := by
  rw [rowF_get h]; exact List.getElem_mem h
/-- what a call on rows tells: rows', or an error where nothing changes -/
def LkPost (X : Nat → Prop) (rows rows' : List Li.LR) (w : World) (e : Ending) (w' : World) : Prop :=
  ∃ (A : Option Addr) (n c : Nat) (x : Int), e = .returned (.tuple #[.slice A n c, .int .i64 x]) ∧ Below w.heap.size w w' ∧ ((x = 0 ∧ RowsAt w' X (.slice A n c) rows') ∨ (x ≠ 0 ∧ rows' = rows))
theorem RowsAt.form {w : World} {X : Nat → Prop} {v : Value} {rows : List Li.LR} (h : RowsAt w X v rows) : ∃ A c vw vl, v = .slice A rows.length c ∧ rows.length ≤ c ∧ c ≤ 9223372036854775807 ∧ Li.RdL w A rows.length (rowF rows) vw vl := by
  obtain ⟨A, c, vw, vl, rfl, h1, h2, h3⟩ := h
  obtain ⟨A', c', e, g1, g2, _⟩ := own_any h1.row
  injection e with e1 e2 e3
  subst e1 e3
  exact ⟨A, c, vw, vl, rfl, g1, g2, h1.rd⟩
theorem lwatch_any (X : Nat → Prop) (v : Value) (rows : List Li.LR) (x ref : Int) (w : World) (h : RowsAt w X v rows) (ok : Li.OkL (rowF rows) rows.length) (hX : ∀ k, X k → k < w.heap.size) :
    Calls Tryz.prog 74 #[v, .int .i64 x, .int .i64 ref] w (LkPost X rows (watchL rows x ref) w) := by
  obtain ⟨A, c, vw, vl, rfl, g1, g2, g3⟩ := h.form
  by_cases hi : ∃ i, Li.WatchOk (rowF rows) rows.length ref i
  · obtain ⟨i, hi⟩ := hi
    refine (Li.watch_ok A _ c _ vw vl x ref i w g1 g2 g3 hi).mono ?_
    rintro e w' ⟨A', c', vw', vl', rfl, ho, hb⟩
    refine ⟨A', _, c', 0, rfl, hb, .inl ⟨rfl, rowsAt_of ho hX rfl (by unfold watchL; simp) (fun k hk => ?_)⟩⟩
    unfold watchL
    rw [rowF_map _ hk]
    unfold Li.updR
    by_cases e : k = i
    · subst e
      have e1 : ((rowF rows k).ref == ref) = true := by simpa using hi.1.2.2
      rw [if_pos rfl, if_pos (by simp [e1, hi.2])]
      rfl
    · have e1 : ((rowF rows k).ref == ref) = false := by
        rcases hb' : (rowF rows k).ref == ref with _ | _
        · rfl
        · exact absurd (Li.OkIx.uniq ⟨ok, hk, by simpa using hb'⟩ hi.1) e
      rw [if_neg e, if_neg (by simp [e1])]
  · refine (Li.watch_bad A _ c _ vw vl x ref w g1 g2 g3 hi).mono ?_
    rintro e w' ⟨y, hy, rfl, hb⟩
    refine ⟨none, 0, 0, y, rfl, hb, .inr ⟨hy, ?_⟩⟩
    unfold watchL
    refine (List.map_congr_left fun r hr => ?_).trans (List.map_id _)
    obtain ⟨k, hk, rfl⟩ := List.getElem_of_mem hr
    rw [if_neg fun h => hi ⟨k, ⟨ok, hk, ?_⟩, ?_⟩]
    · rfl
    · simp only [Bool.and_eq_true] at h
      rw [rowF_get hk]; simpa using h.1
    · simp only [Bool.and_eq_true] at h
      rw [rowF_get hk]; simpa using h.2
theorem llink_any (X : Nat → Prop) (v : Value) (rows : List Li.LR) (ref x : Int) (w : World) (h : RowsAt w X v rows) (ok : Li.OkL (rowF rows) rows.length) (hX : ∀ k, X k → k < w.heap.size) :
    Calls Tryz.prog 75 #[v, .int .i64 ref, .int .i64 x] w (LkPost X rows (linkL rows ref x) w) := by
  obtain ⟨A, c, vw, vl, rfl, g1, g2, g3⟩ := h.form
  by_cases hi : ∃ i, Li.LinkOk (rowF rows) rows.length ref x i
  · obtain ⟨i, hi⟩ := hi
    refine (Li.link_ok A _ c _ vw vl ref x i w g1 g2 g3 hi).mono ?_
    rintro e w' ⟨A', c', vw', vl', rfl, ho, hb⟩
    refine ⟨A', _, c', 0, rfl, hb, .inl ⟨rfl, rowsAt_of ho hX rfl (by unfold linkL; simp) (fun k hk => ?_)⟩⟩
    unfold linkL
    rw [rowF_map _ hk]
    have e2 : ∀ {q : Bool}, k ≠ i → ((rowF rows k).ref == ref && q) = false := fun e => by
      rcases hb' : (rowF rows k).ref == ref with _ | _
      · rfl
      · exact absurd (Li.OkIx.uniq ⟨ok, hk, by simpa using hb'⟩ hi.1) e
    unfold Li.linkR
    by_cases hx : x ∈ (rowF rows i).ls
    · rw [if_pos hx]
      by_cases e : k = i
      · subst e
        rw [if_neg (by simp [hx])]
      · rw [if_neg (by rw [Bool.and_assoc, e2 e]; decide)]
    · rw [if_neg hx]
      unfold Li.updR
      by_cases e : k = i
      · subst e
        have e1 : ((rowF rows k).ref == ref) = true := by simpa using hi.1.2.2
        have h1 := hi.2.resolve_left hx
        rw [if_pos rfl, if_pos (by simp [e1, hx, h1])]
        rfl
      · rw [if_neg e, if_neg (by rw [Bool.and_assoc, e2 e]; decide)]
  · refine (Li.link_bad A _ c _ vw vl ref x w g1 g2 g3 hi).mono ?_
    rintro e w' ⟨y, hy, rfl, hb⟩
    refine ⟨none, 0, 0, y, rfl, hb, .inr ⟨hy, ?_⟩⟩
    unfold linkL
    refine (List.map_congr_left fun r hr => ?_).trans (List.map_id _)
    obtain ⟨k, hk, rfl⟩ := List.getElem_of_mem hr
    rw [if_neg fun h => hi ⟨k, ⟨ok, hk, ?_⟩, .inr ?_⟩]
    · rfl
    · simp only [Bool.and_eq_true] at h
      rw [rowF_get hk]; simpa using h.1.1
    · simp only [Bool.and_eq_true] at h
      rw [rowF_get hk]; simpa using h.2
theorem okIx_iff {rows : List Li.LR} (ok : Li.OkL (rowF rows) rows.length) {ref : Int} {i : Nat} (h : Li.OkIx (rowF rows) rows.length ref i) : rowL rows ref = some (rowF rows i) := by
  unfold rowL
  have hm := rowF_mem h.2.1
  have hs : (rows.find? fun r => r.ref == ref).isSome = true := by
    rw [List.find?_isSome]
    exact ⟨_, hm, by simpa using h.2.2⟩
  obtain ⟨r, hr⟩ := Option.isSome_iff_exists.1 hs
  rw [hr]
  have h1 := List.mem_of_find?_eq_some hr
  have h2 : r.ref = ref := by simpa using List.find?_some hr
  obtain ⟨k, hk, rfl⟩ := List.getElem_of_mem h1
  have := Li.OkIx.uniq (i := k) ⟨ok, hk, by rw [rowF_get hk]; exact h2⟩ h
  subst this
  rw [rowF_get hk]
theorem rowL_none {rows : List Li.LR} (ok : Li.OkL (rowF rows) rows.length) {ref : Int} (h : ¬ ∃ i, Li.OkIx (rowF rows) rows.length ref i) : rowL rows ref = none := by
  unfold rowL
  rw [List.find?_eq_none]
  intro r hr e
  obtain ⟨k, hk, rfl⟩ := List.getElem_of_mem hr
  exact h ⟨k, ok, hk, by rw [rowF_get hk]; simpa using e⟩
set_option maxRecDepth 100000 in
set_option maxHeartbeats 4000000 in
theorem linked_any (X : Nat → Prop) (v : Value) (rows : List Li.LR) (ref x : Int) (w : World) (h : RowsAt w X v rows) (ok : Li.OkL (rowF rows) rows.length) :
    Calls Tryz.prog 90 #[v, .int .i64 ref, .int .i64 x] w fun e w' => ∃ (b : Bool) (y : Int), e = .returned (.tuple #[.bool b, .int .i64 y]) ∧ Below w.heap.size w w' ∧ ((y = 0 ∧ linkedL rows ref x = b) ∨ (y ≠ 0 ∧ linkedL rows ref x = false)) := by
  obtain ⟨A, c, vw, vl, rfl, g1, g2, g3⟩ := h.form
  by_cases hi : ∃ i, Li.OkIx (rowF rows) rows.length ref i
  · obtain ⟨i, hi⟩ := hi
    have hin := hi.2.1
    have hl100 := (ok.2 i hi.2.1).2.2.1
    have HL := Lib.hid (show linkedL rows ref x = decide (x ∈ (rowF rows i).ls) by unfold linkedL; rw [okIx_iff ok hi]; simp)
    have H := Lib.hid (Li.begin_ok A _ c _ vw vl ref i w g1 g2 g3 hi)
    clear g3 h hi ok
    go_enter Tryz.func90, Tryz.ntmps90
    go_wp2_with fail
    refine H.out.mono ?_
    rintro e w1 ⟨A1, c1, vw1, vl1, rfl, hO, hb⟩
    obtain ⟨g, cap, hv, hbase, hglt, hnc, hcm⟩ := own_form hO.row (by omega)
    injection hv with e1 _ e3
    subst e1 e3
    obtain ⟨wA, wc, hvw, q1, q2, _⟩ := own_any (hO.each i hin false)
    have hvw' : vl1 i = .slice wA (rowF rows i).ls.length wc := hvw
    have c0 : w1.cell? ⟨g, i * 3 + 2, none⟩ = some (.slice wA (rowF rows i).ls.length wc) := by
      rw [own_cellC hO.row (Li.rwC_len _ _ _) hin (j := 2) (by omega)]
      simp [Li.rwC, hvw']
    have HOI := Lib.hid (show OwnI w1 w.heap.size (.slice wA (rowF rows i).ls.length wc) (rowF rows i).ls by rw [← hvw']; exact hO.each i hin false)
    have HB := Lib.hid hb
    have j0 : (0 : Int) ≤ (i : Int) := by omega
    have j1 : (i : Int) < (rows.length : Int) := by omega
    clear hO hb hvw hvw'
    go_wp2_with fail
    refine (containsI_any wA (rowF rows i).ls.length wc (lst (rowF rows i).ls) x _ (by omega) HOI.out.rd).mono ?_
    rintro e w2 ⟨rfl, rfl⟩
    rw [any_lst, ← HL.out]
    go_wp2_with fail
    refine bodyPost_ret (results_two Tryz.results90 _ _) rfl ⟨_, 0, rfl, HB.out, .inl ⟨rfl, rfl⟩⟩
  · have HL := Lib.hid (show linkedL rows ref x = false by unfold linkedL; rw [rowL_none ok hi])
    have H := Lib.hid (Li.begin_bad A _ c _ vw vl ref w g1 g2 g3 hi)
    clear g3 h hi ok
    go_enter Tryz.func90, Tryz.ntmps90
    go_wp2_with fail
    refine H.out.mono ?_
    rintro e w1 ⟨y, hy, -, rfl, hb⟩
    have HB := Lib.hid hb
    have HY := Lib.hid hy
    have hy1 : (y != 0) = true := by simpa using hy
    clear hb hy
    go_wp2_with fail
    refine bodyPost_ret (results_two Tryz.results90 _ _) rfl ⟨_, y, rfl, HB.out, .inr ⟨HY.out, HL.out⟩⟩
theorem filter_erase {α : Type} {p : α → Bool} : ∀ {l : List α} {i : Nat}, (h : i < l.length) → p l[i] = false → (∀ j (hj : j < l.length), j ≠ i → p l[j] = true) → l.filter p = l.eraseIdx i
  | [], i, h, _, _ => by simp at h
  | x :: l, 0, h, h0, hn => by
    rw [List.filter_cons_of_neg (by simpa using h0), List.eraseIdx_cons_zero, List.filter_eq_self]
    intro a ha
    obtain ⟨k, hk, rfl⟩ := List.getElem_of_mem ha
    have := hn (k + 1) (by simpa using hk) (by omega)
    simpa using this
  | x :: l, i + 1, h, h0, hn => by
    rw [List.filter_cons_of_pos (show p x = true from hn 0 (by simp) (by omega)), List.eraseIdx_cons_succ, filter_erase (l := l) (i := i) (by simpa using h) (by simpa using h0) (fun j hj hne => by
      have := hn (j + 1) (by simpa using hj) (by omega)
      simpa using this)]
theorem goneL_erase {rows : List Li.LR} (ok : Li.OkL (rowF rows) rows.length) {ref : Int} {i : Nat} (h : Li.OkIx (rowF rows) rows.length ref i) : goneL rows ref = rows.eraseIdx i := by
  unfold goneL
  refine filter_erase h.2.1 ?_ fun j hj hne => ?_
  · have := h.2.2
    rw [rowF_get h.2.1] at this
    simp [this]
  · rcases hb : rows[j].ref == ref with _ | _
    · rfl
    · exact absurd (Li.OkIx.uniq (i := j) ⟨ok, hj, by rw [rowF_get hj]; simpa using hb⟩ h) hne
theorem rowF_erase {rows : List Li.LR} {i j : Nat} : rowF (rows.eraseIdx i) j = delF (rowF rows) i j := by
  unfold rowF delF
  simp only [List.getD_eq_getElem?_getD, List.getElem?_eraseIdx]
  split <;> rfl
theorem goneL_none {rows : List Li.LR} (ok : Li.OkL (rowF rows) rows.length) {ref : Int} (h : ¬ ∃ i, Li.OkIx (rowF rows) rows.length ref i) : goneL rows ref = rows := by
  unfold goneL
  rw [List.filter_eq_self]
  intro r hr
  obtain ⟨k, hk, rfl⟩ := List.getElem_of_mem hr
  rcases hb : rows[k].ref == ref with _ | _
  · rfl
  · exact absurd ⟨k, ok, hk, by rw [rowF_get hk]; simpa using hb⟩ h
/-- what Gone tells -/
def GonePost (X : Nat → Prop) (rows : List Li.LR) (ref : Int) (failed : Bool) (text : ByteArray) (w : World) (e : Ending) (w' : World) : Prop :=
  ∃ (A : Option Addr) (n c : Nat) (L : Option Addr) (d : Nat) (x : Int), e = .returned (.tuple #[.slice A n c, .slice L (tellL rows ref failed text).length d, .int .i64 x]) ∧ Below w.heap.size w w' ∧ ((x = 0 ∧ RowsAt w' X (.slice A n c) (goneL rows ref)) ∨ (x ≠ 0 ∧ goneL rows ref = rows)) ∧ (tellL rows ref failed text).length ≤ 200 ∧ RdL w' (fun k => w.heap.size ≤ k) L (tellL rows ref failed text).length (nthL (tellL rows ref failed text))
theorem tell_told {rows : List Li.LR} {ref : Int} {failed : Bool} {text : ByteArray} {r : Li.LR} (h : rowL rows ref = some r) : (tellL rows ref failed text).length = Li.manyTold failed r ∧ ∀ (w : World) (S : Nat → Prop) k, k < Li.manyTold failed r → (nthL (tellL rows ref failed text) k).isL w S (Li.told ref failed text r k) := by
  unfold tellL
  rw [h]
  dsimp only
  refine ⟨by unfold Li.manyTold; cases failed <;> simp, fun w S k hk => ?_⟩
  have leaf := leaf_V w S 0 0
  unfold Li.told nthL
  by_cases hw : k < r.ws.length
  · rw [if_pos hw, List.getD_eq_getElem?_getD, List.getElem?_append_left (by simpa using hw), List.getElem?_map, List.getElem?_eq_getElem hw]
    have e1 : lst r.ws k = r.ws[k] := by unfold lst; rw [List.getD_eq_getElem?_getD, List.getElem?_eq_getElem hw]; rfl
    rw [e1]
    exact ⟨0, 0, ⟨#[]⟩, none, 0, 0, rfl, leaf⟩
  · rw [if_neg hw]
    unfold Li.manyTold at hk
    cases failed with
    | false => simp at hk; omega
    | true =>
      simp only [if_true] at hk ⊢
      have hl : k - r.ws.length < r.ls.length := by omega
      rw [List.getD_eq_getElem?_getD, List.getElem?_append_right (by simpa using Nat.le_of_not_lt hw), List.length_map, List.getElem?_map, List.getElem?_eq_getElem hl]
      have e1 : lst r.ls (k - r.ws.length) = r.ls[k - r.ws.length] := by unfold lst; rw [List.getD_eq_getElem?_getD, List.getElem?_eq_getElem hl]; rfl
      rw [e1]
      exact ⟨0, 0, ⟨#[]⟩, none, 0, 0, rfl, leaf⟩
theorem lgone_any (X : Nat → Prop) (v : Value) (rows : List Li.LR) (ref : Int) (failed : Bool) (text : ByteArray) (w : World) (h : RowsAt w X v rows) (ok : Li.OkL (rowF rows) rows.length) (hX : ∀ k, X k → k < w.heap.size) :
    Calls Tryz.prog 59 #[v, .int .i64 ref, .bool failed, .string text] w (GonePost X rows ref failed text w) := by
  obtain ⟨A, c, vw, vl, rfl, g1, g2, g3⟩ := h.form
  by_cases hi : ∃ i, Li.OkIx (rowF rows) rows.length ref i
  · obtain ⟨i, hi⟩ := hi
    obtain ⟨t1, t2⟩ := tell_told (failed := failed) (text := text) (okIx_iff ok hi)
    refine (Li.gone_ok A _ c _ vw vl ref failed text i w g1 g2 g3 hi).mono ?_
    rintro e w' ⟨A', c', vw', vl', L, d, rfl, ho, hl, hb⟩
    have h100 := ok.2 i hi.2.1
    refine ⟨A', _, c', L, d, 0, by rw [t1], hb, .inl ⟨rfl, rowsAt_of ho hX rfl (by rw [goneL_erase ok hi, List.length_eraseIdx, if_pos hi.2.1]) (fun k hk => by rw [goneL_erase ok hi, rowF_erase])⟩, ?_, ?_⟩
    · rw [t1]
      have := h100.2.1
      have := h100.2.2.1
      unfold Li.manyTold
      split <;> omega
    · rw [t1]
      intro h0
      obtain ⟨g, cap, hv, hbg, hlt, _⟩ := own_form hl h0
      injection hv with e1 e2 e3
      subst e1 e3
      exact ⟨g, 0, rfl, hlt, hbg, Li.told ref failed text (rowF rows i), fun k hk => ⟨t2 _ _ k hk, fun j u hu => by
        have hj : j < 9 := by
          rcases Nat.lt_or_ge j 9 with hh | hh
          · exact hh
          · rw [List.getElem?_eq_none (by rw [Li.told_len]; exact hh)] at hu; cases hu
        rw [Nat.zero_add, own_cellC hl (Li.told_len _ _ _ _) hk hj]
        exact hu⟩⟩
  · have ht : tellL rows ref failed text = [] := by unfold tellL; rw [rowL_none ok hi]
    refine (Li.gone_bad A _ c _ vw vl ref failed text w g1 g2 g3 hi).mono ?_
    rintro e w' ⟨x, hx, _, rfl, hb⟩
    exact ⟨none, 0, 0, none, 0, x, by rw [ht]; rfl, hb, .inr ⟨hx, goneL_none ok hi⟩, by rw [ht]; decide, by rw [ht]; exact fun h => by simp at h⟩
end Go.Proofs.YtjjfglbcikaicaaGreat
namespace Go.Proofs.YtjjfglbcikaicaaGreat
open Go.RowKit
set_option linter.unusedVariables false
set_option linter.unusedSimpArgs false
def RowOk (r : Li.LR) : Prop := 1 ≤ r.ref ∧ r.ws.length ≤ 100 ∧ r.ls.length ≤ 100 ∧ Li.ClearL r.ls ∧ Wf r.ref ∧ (∀ x, x ∈ r.ws → Wf x) ∧ ∀ x, x ∈ r.ls → Wf x
theorem rowsOk_iff {l : List Li.LR} : RowsOk l ↔ l.length ≤ 100 ∧ l.Pairwise (fun a b => a.ref < b.ref) ∧ ∀ r, r ∈ l → RowOk r := by
  constructor
  · intro h
    refine ⟨h.ok.1, ?_, fun r hr => ?_⟩
    · rw [List.pairwise_iff_getElem]
      intro i j hi hj hij
      have := Li.OkL.mono h.ok i j hij hj
      rwa [rowF_get hi, rowF_get hj] at this
    · obtain ⟨k, hk, rfl⟩ := List.getElem_of_mem hr
      obtain ⟨a, b, c, _, d⟩ := h.ok.2 k hk
      rw [rowF_get hk] at a b c d
      exact ⟨a, b, c, d, h.wf _ hr⟩
  · rintro ⟨h1, h2, h3⟩
    rw [List.pairwise_iff_getElem] at h2
    refine ⟨⟨h1, fun k hk => ?_⟩, fun r hr => (h3 r hr).2.2.2.2⟩
    obtain ⟨a, b, c, d, _⟩ := h3 _ (rowF_mem hk)
    refine ⟨a, b, c, fun h0 => ?_, d⟩
    have := h2 (k - 1) k (by omega) hk (by omega)
    rwa [rowF_get hk, rowF_get (show k - 1 < l.length by omega)]
theorem pairwise_refs {l l' : List Li.LR} (h : l'.map (·.ref) = l.map (·.ref)) (hs : l.Pairwise fun a b => a.ref < b.ref) : l'.Pairwise fun a b => a.ref < b.ref := by
  have h1 : (l.map (·.ref)).Pairwise (· < ·) := List.pairwise_map.2 hs
  rw [← h] at h1
  exact List.pairwise_map.1 h1
theorem clear_snoc {l : List Int} {x : Int} (h : Li.ClearL l) (hx : x ∉ l) : Li.ClearL (l ++ [x]) := by
  intro q hq
  by_cases e : q = l.length
  · subst e
    have : lst (l ++ [x]) l.length = x := by unfold lst; simp [List.getD]
    rw [this, List.take_left']
    · exact hx
    · rfl
  · have hq' : q < l.length := by simp at hq; omega
    have e1 : lst (l ++ [x]) q = lst l q := by unfold lst; rw [List.getD_eq_getElem?_getD, List.getElem?_append_left hq', ← List.getD_eq_getElem?_getD]
    rw [e1, List.take_append_of_le_length (by omega)]
    exact h q hq'
theorem RowsOk.watch {l : List Li.LR} (h : RowsOk l) {x ref : Int} (hx : Wf x) : RowsOk (watchL l x ref) := by
  rw [rowsOk_iff] at h ⊢
  obtain ⟨h1, h2, h3⟩ := h
  refine ⟨by unfold watchL; simpa using h1, pairwise_refs (l := l) ?_ h2, fun r hr => ?_⟩
  · unfold watchL
    rw [List.map_map]
    apply List.map_congr_left
    intro r _
    show (if _ then _ else r).ref = r.ref
    split <;> rfl
  · unfold watchL at hr
    obtain ⟨s, hs, rfl⟩ := List.mem_map.1 hr
    obtain ⟨a, b, c, d, e, f, g⟩ := h3 s hs
    split
    · rename_i hh
      simp only [Bool.and_eq_true, decide_eq_true_eq] at hh
      refine ⟨a, by simp; omega, c, d, e, fun y hy => ?_, g⟩
      rcases List.mem_append.1 hy with hy | hy
      · exact f y hy
      · rw [List.mem_singleton.1 hy]; exact hx
    · exact ⟨a, b, c, d, e, f, g⟩
theorem RowsOk.link {l : List Li.LR} (h : RowsOk l) {x ref : Int} (hx : Wf x) : RowsOk (linkL l ref x) := by
  rw [rowsOk_iff] at h ⊢
  obtain ⟨h1, h2, h3⟩ := h
  refine ⟨by unfold linkL; simpa using h1, pairwise_refs (l := l) ?_ h2, fun r hr => ?_⟩
  · unfold linkL
    rw [List.map_map]
    apply List.map_congr_left
    intro r _
    show (if _ then _ else r).ref = r.ref
    split <;> rfl
  · unfold linkL at hr
    obtain ⟨s, hs, rfl⟩ := List.mem_map.1 hr
    obtain ⟨a, b, c, d, e, f, g⟩ := h3 s hs
    split
    · rename_i hh
      simp only [Bool.and_eq_true, decide_eq_true_eq] at hh
      refine ⟨a, b, by simp; omega, clear_snoc d (by simpa using hh.1.2), e, f, fun y hy => ?_⟩
      rcases List.mem_append.1 hy with hy | hy
      · exact g y hy
      · rw [List.mem_singleton.1 hy]; exact hx
    · exact ⟨a, b, c, d, e, f, g⟩
theorem RowsOk.gone {l : List Li.LR} (h : RowsOk l) (ref : Int) : RowsOk (goneL l ref) := by
  rw [rowsOk_iff] at h ⊢
  obtain ⟨h1, h2, h3⟩ := h
  refine ⟨Nat.le_trans (List.length_filter_le _ _) h1, h2.filter _, fun r hr => h3 r (List.mem_filter.1 hr).1⟩
theorem addL_pos {ref : Int} : ∀ {rows : List Li.LR} {p : Nat}, p ≤ rows.length → (∀ k, k < p → (rowF rows k).ref < ref) → (p < rows.length → ref < (rowF rows p).ref) → addL rows ref = rows.take p ++ ⟨ref, [], []⟩ :: rows.drop p
  | [], p, h, _, _ => by simp at h; subst h; rfl
  | b :: l, 0, _, _, h2 => by
    have := h2 (by simp)
    unfold addL
    rw [if_pos (show ref < b.ref from this)]
    rfl
  | b :: l, p + 1, h, h1, h2 => by
    have := h1 0 (by omega)
    unfold addL
    rw [if_neg (by have : b.ref < ref := this; omega), addL_pos (rows := l) (p := p) (by simpa using h) (fun k hk => h1 (k + 1) (by omega)) (fun hp => h2 (by simpa using hp))]
    rfl
theorem rowF_ins {rows : List Li.LR} {p j : Nat} {r : Li.LR} (hp : p ≤ rows.length) : rowF (rows.take p ++ r :: rows.drop p) j = insF (rowF rows) p r j := by
  unfold rowF insF
  simp only [List.getD_eq_getElem?_getD]
  by_cases h1 : j < p
  · rw [if_pos h1, List.getElem?_append_left (by rw [List.length_take]; omega), List.getElem?_take_of_lt h1]
  · rw [if_neg h1, List.getElem?_append_right (by rw [List.length_take]; omega), List.length_take, Nat.min_eq_left hp]
    by_cases h2 : j = p
    · subst h2; simp
    · rw [if_neg h2]
      obtain ⟨m, rfl⟩ : ∃ m, j = p + (m + 1) := ⟨j - p - 1, by omega⟩
      rw [show p + (m + 1) - p = m + 1 by omega, List.getElem?_cons_succ, List.getElem?_drop]
      rfl
theorem len_addL (ref : Int) : ∀ rows : List Li.LR, (addL rows ref).length = rows.length + 1
  | [] => rfl
  | b :: l => by
    unfold addL
    split
    · rfl
    · simp [len_addL ref l]
theorem ladd_any (X : Nat → Prop) (v : Value) (rows : List Li.LR) (ref : Int) (w : World) (h : RowsAt w X v rows) (ok : Li.OkL (rowF rows) rows.length) (hX : ∀ k, X k → k < w.heap.size) :
    Calls Tryz.prog 77 #[v, .int .i64 ref] w (LkPost X rows (addR rows ref) w) := by
  obtain ⟨A, c, vw, vl, rfl, g1, g2, g3⟩ := h.form
  have hno : ∀ {k}, k < rows.length → (rowF rows k).ref = ref → (rowL rows ref).isSome = true := fun {k} hk e => by
    unfold rowL
    rw [List.find?_isSome]
    exact ⟨_, rowF_mem hk, by simpa using e⟩
  refine (Li.add_any A _ c _ vw vl ref w g1 g2 g3).mono ?_
  rintro e w' (⟨hb, y, hy, rfl, hbl⟩ | ⟨ha, p, hp, A', c', vw', vl', rfl, ho, hbl⟩)
  · refine ⟨none, 0, 0, y, rfl, hbl, .inr ⟨hy, ?_⟩⟩
    unfold addR
    rw [if_pos]
    rcases Int.lt_or_le ref 1 with h1 | h1
    · exact .inl h1
    · by_cases h2 : rows.length = 100
      · exact .inr (.inr h2)
      · refine .inr (.inl ?_)
        rcases hs : (rowL rows ref).isSome with _ | _
        · exact absurd ⟨ok, h1, (fun k hk e => by rw [hno hk e] at hs; cases hs), h2⟩ hb
        · rfl
  · obtain ⟨_, h1, h2, h3⟩ := ha
    have hl : (addR rows ref) = addL rows ref := by
      unfold addR
      rw [if_neg]
      rintro (h | h | h)
      · omega
      · unfold rowL at h
        rw [List.find?_isSome] at h
        obtain ⟨r, hr, e⟩ := h
        obtain ⟨k, hk, rfl⟩ := List.getElem_of_mem hr
        exact h2 k hk (by rw [rowF_get hk]; simpa using e)
      · exact h3 h
    obtain ⟨p1, p2, p3⟩ := hp
    exact ⟨A', _, c', 0, rfl, hbl, .inl ⟨rfl, rowsAt_of ho hX rfl (by rw [hl, len_addL]) (fun k hk => by rw [hl, addL_pos p1 p2 p3, rowF_ins p1])⟩⟩
theorem mem_addL {ref : Int} {r : Li.LR} : ∀ {rows : List Li.LR}, r ∈ addL rows ref ↔ r = ⟨ref, [], []⟩ ∨ r ∈ rows
  | [] => by simp [addL]
  | x :: l => by
    unfold addL
    split
    · simp
    · simp only [List.mem_cons, mem_addL (rows := l)]
      constructor
      · rintro (h | h | h); exact .inr (.inl h); exact .inl h; exact .inr (.inr h)
      · rintro (h | h | h); exact .inr (.inl h); exact .inl h; exact .inr (.inr h)
theorem srt_addL {ref : Int} : ∀ {l : List Li.LR}, l.Pairwise (fun a b => a.ref < b.ref) → (∀ b, b ∈ l → b.ref ≠ ref) → (addL l ref).Pairwise fun a b => a.ref < b.ref
  | [], _, _ => List.pairwise_singleton _ _
  | x :: l, h, hn => by
    unfold addL
    rw [List.pairwise_cons] at h
    split
    · rename_i hlt
      rw [List.pairwise_cons]
      refine ⟨fun b hb => ?_, List.pairwise_cons.2 h⟩
      rcases List.mem_cons.1 hb with e | hb
      · rw [e]; exact hlt
      · have := h.1 b hb
        show ref < b.ref
        omega
    · rename_i hlt
      rw [List.pairwise_cons]
      refine ⟨fun b hb => ?_, srt_addL h.2 (fun b hb => hn b (List.mem_cons_of_mem _ hb))⟩
      rcases mem_addL.1 hb with e | hb
      · have := hn x (List.mem_cons_self ..)
        rw [e]
        show x.ref < ref
        omega
      · exact h.1 b hb
theorem RowsOk.add {l : List Li.LR} (h : RowsOk l) {ref : Int} (hr : Wf ref) : RowsOk (addR l ref) := by
  unfold addR
  split
  · exact h
  · rename_i hh
    rw [rowsOk_iff] at h ⊢
    obtain ⟨h1, h2, h3⟩ := h
    have n1 : ¬ ref < 1 := fun e => hh (.inl e)
    have n2 : ∀ b, b ∈ l → b.ref ≠ ref := fun b hb e => hh (.inr (.inl (by unfold rowL; rw [List.find?_isSome]; exact ⟨b, hb, by simpa using e⟩)))
    have n3 : l.length ≠ 100 := fun e => hh (.inr (.inr e))
    refine ⟨by rw [len_addL]; omega, srt_addL h2 n2, fun r hr' => ?_⟩
    rcases mem_addL.1 hr' with e | hb
    · rw [e]
      exact ⟨by show 1 ≤ ref; omega, by simp, by simp, fun q hq => by simp at hq, hr, fun x hx => by simp at hx, fun x hx => by simp at hx⟩
    · exact h3 r hb
end Go.Proofs.YtjjfglbcikaicaaGreat
namespace Go.Proofs.YtjjfglbcikaicaaGreat
open Go.RowKit
set_option linter.unusedVariables false
set_option linter.unusedSimpArgs false
theorem und_actors : Tryz.prog.underlying 99 = some (.map 3 107) := Tryz.underlying99
theorem zero_actor : ∀ w, (zeroValue 107).run Tryz.prog w = .ok (.pointer none) w := fun w => by kernel_rfl
theorem zero_int : ∀ w, (zeroValue 3).run Tryz.prog w = .ok (.int .i64 0) w := fun w => by kernel_rfl
theorem NdOk.setA {N : NdS} (h : NdOk N) {a' : ActS} (ha : ActOk a') : NdOk (N.setA a') :=
  { h with
    len := by rw [len_setA]; exact h.len
    srt := srt_refs (refs_setA a') h.srt
    act := fun b hb => by
      rcases mem_setA.1 hb with ⟨_, _, _, rfl⟩ | ⟨hb, _⟩
      · exact ha
      · exact h.act b hb }
theorem NdOk.delA {N : NdS} (h : NdOk N) (r : Int) : NdOk (N.delA r) :=
  { h with
    len := Nat.le_trans (List.length_filter_le _ _) h.len
    srt := h.srt.filter _
    act := fun b hb => h.act b (mem_delA.1 hb).1 }
theorem NdOk.setRows {N : NdS} (h : NdOk N) {rows : List Li.LR} (hr : RowsOk rows) : NdOk { N with rows := rows } := { h with rows := hr }
section
variable {w w' : World} {X M : Nat → Prop} {base T p : Nat} {P : Int → Nat} {N : NdS}
theorem NodeAt.ok (h : NodeAt w X M base T p P N) : NdOk N := h.1
theorem NodeAt.xlt (h : NodeAt w X M base T p P N) : ∀ k, X k → k < w.heap.size := h.2.1
theorem NodeAt.up (h : NodeAt w X M base T p P N) {T' : Nat} (hT : T ≤ T') : NodeAt w X M base T' p P N := by
  obtain ⟨h1, h2, h3, mb, hb, MA, ob, sb, h4, h5⟩ := h
  exact ⟨h1, h2, h3, mb, hb, MA, ob, sb, h4.up hT, h5⟩
/-- only new memory has come -/
theorem NodeAt.new (h : NodeAt w X M base T p P N) {S : Nat → Prop} (hf : Fr S w w') (hS : ∀ k, S k → False) : NodeAt w' X M base T p P N :=
  h.fr hf (fun k hk => (hS k hk).elim) (fun _ h => h) (fun k hk => .inl hk) (fun k _ hs => hS k hs)
theorem NodeAt.below (h : NodeAt w X M base T p P N) (hb : Below w.heap.size w w') : NodeAt w' X M base T p P N := h.new (Fr.of_below (S := fun _ => False) hb) (fun _ h => h)
theorem NodeAt.p_lt (h : NodeAt w X M base T p P N) : p < w.heap.size := by
  obtain ⟨h1, h2, h3, mb, hb, MA, ob, sb, h4, h5⟩ := h
  exact h4.lt.1
theorem NodeAt.pM (h : NodeAt w X M base T p P N) : M p ∧ X p ∧ base ≤ p := by
  obtain ⟨h1, h2, h3, mb, hb, MA, ob, sb, h4, h5⟩ := h
  exact ⟨h5.p, h3 p h5.p⟩
theorem NodeAt.setRows (h : NodeAt w X M base T p P N) {v : Value} {rows : List Li.LR} (hr : RowsAt w X v rows) (hk : RowsOk rows) : NodeAt (w.setCell ⟨p, 4, none⟩ v) X M base T p P { N with rows := rows } := by
  obtain ⟨h1, h2, h3, mb, hb, MA, ob, sb, h4, h5⟩ := h
  exact ⟨h1.setRows hk, fun k hk => by simpa using h2 k hk, h3, mb, hb, MA, ob, sb, h4.set4 (h3 p h5.p) hr, h5.p, h5.mb, h5.hb, h5.ob, h5.sb, h5.act⟩
theorem NodeAt.lim (h : NodeAt w X M base T p P N) : N.out.length + 201 * N.acts.length ≤ T := by
  obtain ⟨h1, h2, h3, mb, hb, MA, ob, sb, h4, h5⟩ := h
  exact h4.lim.1
/-- the map of the actors, as it is looked up -/
theorem NodeAt.look (h : NodeAt w X M base T p P N) : ∃ mb, w.cell? ⟨p, 3, none⟩ = some (.map (some mb)) ∧ mb < w.heap.size ∧ M mb ∧ (∀ x a, N.find x = some a → ∃ pa, pa = P x ∧ pa < w.heap.size ∧ M pa ∧ pa ≠ p ∧ pa ≠ mb ∧ ∀ W, Fr (fun k => M k ∧ k ≠ mb) w W → (Instr.lookup 99 (.map (some mb)) (.int .i64 x) false).run Tryz.prog W = .ok (.pointer (some ⟨pa, 0, none⟩)) W) ∧
    (∀ x, Wf x → N.has x = false → ∀ W, Fr (fun k => M k ∧ k ≠ mb) w W → (Instr.lookup 99 (.map (some mb)) (.int .i64 x) false).run Tryz.prog W = .ok (.pointer none) W) := by
  obtain ⟨h1, h2, h3, mb, hb, MA, ob, sb, h4, h5⟩ := h
  refine ⟨mb, h4.c3, h4.lt.2.1, h5.mb, fun x a ha => ?_, fun x hx hn W hf => ?_⟩
  · obtain ⟨hm, rfl⟩ := find_some ha
    obtain ⟨b, rb, kb, ib, hA⟩ := h4.acts a hm
    have hP := hA.mine.1
    refine ⟨P a.ref, rfl, hA.lt.1, h5.act a hm _ hP, (h4.own a hm _ hP).1, (h4.own a hm _ hP).2.1, fun W hf => ?_⟩
    have := (h4.am.fr hf (fun h => h.2 rfl)).look und_actors zero_actor (h1.act a hm).ref
    rw [if_pos (has_iff.2 ⟨a, hm, rfl⟩)] at this
    exact this
  · have := (h4.am.fr hf (fun h => h.2 rfl)).look und_actors zero_actor hx
    rw [hn] at this
    exact this
/-- an actor of the node: taken out, turned, put back -/
theorem NodeAt.act (h : NodeAt w X M base T p P N) {x : Int} {a : ActS} (ha : N.find x = some a) : ∃ pa b rb kb ib MA mb, pa = P x ∧ w.cell? ⟨p, 3, none⟩ = some (.map (some mb)) ∧ ActG w X base T MA pa b rb kb ib a ∧ (∀ k, MA k → M k ∧ k ≠ p ∧ k ≠ mb) ∧ (∀ W, Fr (fun k => M k ∧ k ≠ mb) w W → (Instr.lookup 99 (.map (some mb)) (.int .i64 x) false).run Tryz.prog W = .ok (.pointer (some ⟨pa, 0, none⟩)) W) ∧
    (∀ w' X' MA' T' a', (∀ k, X k → X' k) → (∀ k, X' k → X k ∨ w.heap.size ≤ k ∧ k < w'.heap.size) → (∀ k, MA' k → MA k ∨ w.heap.size ≤ k) → (∀ k, MA' k → X' k) → (∃ b rb kb ib, ActG w' X' base T' MA' pa b rb kb ib a') → Fr MA w w' → a'.ref = a.ref → ActOk a' → T ≤ T' →
      Gr X M w X' (fun k => M k ∨ MA' k) w' ∧ NodeAt w' X' (fun k => M k ∨ MA' k) base T' p P (N.setA a')) := by
  obtain ⟨h1, h2, h3, mb, hb, MA, ob, sb, h4, h5⟩ := h
  obtain ⟨hm, rfl⟩ := find_some ha
  obtain ⟨b, rb, kb, ib, hA⟩ := h4.acts a hm
  refine ⟨P a.ref, b, rb, kb, ib, MA a.ref, mb, rfl, h4.c3, hA, fun k hk => ⟨h5.act a hm k hk, (h4.own a hm k hk).1, (h4.own a hm k hk).2.1⟩, fun W hf => ?_, ?_⟩
  · have := (h4.am.fr hf (fun h => h.2 rfl)).look und_actors zero_actor (h1.act a hm).ref
    rw [if_pos (has_iff.2 ⟨a, hm, rfl⟩)] at this
    exact this
  · intro w' X' MA' T' a' g1 g2 g3 g4 ⟨b', rb', kb', ib', g5⟩ g6 g7 g8 g9
    have hz := g6.size
    have hlb : base ≤ w.heap.size := by have := (h3 p h5.p).2; have := h4.lt.1; omega
    refine ⟨⟨g6.weak (fun k hk => h5.act a hm k hk), g1, fun k hk => by rcases g2 k hk with h | h; exact .inl h; exact .inr h.1, fun k hk => ?_⟩, h1.setA g8, fun k hk => ?_, fun k hk => ?_, mb, hb, _, ob, sb, h4.setA h1.srt h5 h3 h2 hm g6 g1 (fun k hk => by rcases g2 k hk with h | h; exact .inl h; exact .inr h.1) g9 g5 g3 g7, ⟨.inl h5.p, .inl h5.mb, .inl h5.hb, fun k hk => .inl (h5.ob k hk), fun k hk => .inl (h5.sb k hk), fun c hc k hk => ?_⟩⟩
    · rcases hk with hk | hk
      · exact .inl hk
      · rcases g3 k hk with h | h
        · exact .inl (h5.act a hm k h)
        · exact .inr h
    · rcases g2 k hk with h | h
      · exact Nat.lt_of_lt_of_le (h2 k h) hz
      · exact h.2
    · rcases hk with hk | hk
      · exact ⟨g1 k (h3 k hk).1, (h3 k hk).2⟩
      · refine ⟨g4 k hk, ?_⟩
        rcases g3 k hk with h | h
        · exact (h3 k (h5.act a hm k h)).2
        · omega
    · by_cases e : c.ref = a.ref
      · rw [if_pos e] at hk
        exact .inr hk
      · rw [if_neg e] at hk
        rcases mem_setA.1 hc with ⟨_, _, _, rfl⟩ | ⟨hc, _⟩
        · exact absurd g7 e
        · exact .inl (h5.act c hc k hk)
end
set_option maxRecDepth 100000 in
set_option maxHeartbeats 4000000 in
theorem change_nd {w : World} {X M : Nat → Prop} {base T p : Nat} {P : Int → Nat} {N : NdS} {A : Option Addr} {n c : Nat} {x : Int} {rows : List Li.LR} (h : NodeAt w X M base T p P N) (hl : (x = 0 ∧ RowsAt w X (.slice A n c) rows) ∨ (x ≠ 0 ∧ rows = N.rows)) (hok : RowsOk rows) :
    Calls Tryz.prog 60 #[.pointer (some ⟨p, 0, none⟩), .slice A n c, .int .i64 x] w (NdPost X M base T p P { N with rows := rows } w (.tuple #[])) := by
  rcases hl with ⟨rfl, hr⟩ | ⟨hx, rfl⟩
  · have HS := Lib.hid (h.setRows hr hok)
    have hM := h.pM.1
    obtain ⟨h1, h2, h3, mb, hb, MA, ob, sb, h4, h5⟩ := h
    obtain ⟨v, c4, _⟩ := h4.c4
    have fz := h4.fz
    clear h1 h2 h3 h4 h5 hr hok
    go_enter Tryz.func60, Tryz.ntmps60
    go_wp2_with fail
    exact bodyPost_end (results_none rfl _ _ _) rfl ⟨rfl, X, M, ⟨(Fr.refl M w).set (.inl hM) _, fun _ h => h, fun _ h => .inl h, fun _ h => .inl h⟩, HS.out⟩
  · have HS := Lib.hid h
    have hx' : (x == 0) = false := by simpa using hx
    clear h hok hx
    go_enter Tryz.func60, Tryz.ntmps60
    go_wp2_with fail
    exact bodyPost_end (results_none rfl _ _ _) rfl ⟨rfl, X, M, Gr.refl X M w, HS.out⟩
end Go.Proofs.YtjjfglbcikaicaaGreat
namespace Go.Proofs.YtjjfglbcikaicaaGreat
open Go.RowKit
set_option linter.unusedVariables false
set_option linter.unusedSimpArgs false
theorem nthS_wf {l : List Stp} (h : StpsWf l) (k : Nat) : Wf (nthS l k).a ∧ Wf (nthS l k).b := by
  unfold nthS
  rw [List.getD_eq_getElem?_getD]
  rcases hg : l[k]? with _ | s
  · exact ⟨Wf.of (by decide) (by decide), Wf.of (by decide) (by decide)⟩
  · exact h s (List.mem_of_getElem? hg)
structure RunW (r : RunS) : Prop where
  kid : Wf r.kid
  self : Wf r.self
  ln : Wf r.ln
  lk : (r.over = true → r.lk = 8 ∨ r.lk = 9) ∧ (r.waiting = true → r.lk = 7)
structure OutW (o : OutS) : Prop where
  num : Wf o.num
  vn : Wf o.vn
  spawn : o.kind = 4 → ∃ b, o.text = ⟨#[b]⟩
theorem refR_wf {r : RunS} (h : RunW r) {a : Int} (ha : Wf a) : Wf (refR r a) := by
  unfold refR
  split
  · exact h.self
  · split
    · exact h.kid
    · exact ha
theorem wf0 : Wf 0 := Wf.of (by decide) (by decide)
theorem outO_w {k n : Int} (hn : Wf n) (hk : k ≠ 4) : OutW (outO k n) := ⟨hn, wf0, fun e => absurd e hk⟩
theorem stepR_w {l : List Stp} {r : RunS} (hl : StpsWf l) (h : RunW r) (ho : r.over = false) (hw : r.waiting = false) : RunW (stepR l r).1 ∧ OutW (stepR l r).2 ∧ (stepR l r).1.kid = r.kid ∧ (stepR l r).1.self = r.self := by
  have hs := nthS_wf hl r.pos
  have hf : ∀ {p : Prop}, r.waiting = true → p := fun e => by rw [hw] at e; cases e
  have hg : ∀ {p : Prop}, r.over = true → p := fun e => by rw [ho] at e; cases e
  unfold stepR
  split
  · exact ⟨⟨h.kid, h.self, wf0, fun _ => .inl rfl, fun e => hf e⟩, outO_w wf0 (by decide), rfl, rfl⟩
  · dsimp only
    have hm : Wf (max (-1) (min (nthS l r.pos).b 9)) := by
      have := hs.2.low
      exact Wf.of (by omega) (by omega)
    split
    · exact ⟨⟨h.kid, h.self, h.ln, fun e => hg e, fun e => hf e⟩, outO_w hs.1 (by decide), rfl, rfl⟩
    split
    · exact ⟨⟨h.kid, h.self, h.ln, fun e => hg e, fun e => hf e⟩, ⟨refR_wf h hs.1, hs.2, fun e => absurd e (show ¬ (3 : Int) = 4 by decide)⟩, rfl, rfl⟩
    split
    · exact ⟨⟨h.kid, h.self, h.ln, fun e => hg e, fun e => hf e⟩, ⟨wf0, wf0, fun _ => ⟨_, rfl⟩⟩, rfl, rfl⟩
    split
    · exact ⟨⟨h.kid, h.self, h.ln, fun e => hg e, fun e => hf e⟩, outO_w (refR_wf h hs.1) (by decide), rfl, rfl⟩
    split
    · exact ⟨⟨h.kid, h.self, h.ln, fun e => hg e, fun e => hf e⟩, outO_w (refR_wf h hs.1) (by decide), rfl, rfl⟩
    split
    · exact ⟨⟨h.kid, h.self, hm, fun e => hg e, fun _ => rfl⟩, outO_w hm (by decide), rfl, rfl⟩
    split
    · exact ⟨⟨h.kid, h.self, wf0, fun _ => .inl rfl, fun e => hf e⟩, outO_w wf0 (by decide), rfl, rfl⟩
    split
    · exact ⟨⟨h.kid, h.self, wf0, fun _ => .inr rfl, fun e => hf e⟩, ⟨wf0, wf0, fun e => absurd e (show ¬ (9 : Int) = 4 by decide)⟩, rfl, rfl⟩
    split
    · exact ⟨⟨h.kid, h.self, h.ln, fun e => hg e, fun e => hf e⟩, outO_w wf0 (by decide), rfl, rfl⟩
    · exact ⟨⟨h.kid, h.self, h.ln, fun e => hg e, fun e => hf e⟩, outO_w wf0 (by decide), rfl, rfl⟩
theorem runR_w {l : List Stp} (hl : StpsWf l) : ∀ (f : Nat) {r : RunS}, RunW r → RunW (runR l f r).1 ∧ OutW (runR l f r).2 ∧ (runR l f r).1.kid = r.kid ∧ (runR l f r).1.self = r.self
  | 0, r, h => ⟨h, outO_w wf0 (by decide), rfl, rfl⟩
  | f + 1, r, h => by
    unfold runR
    split
    · rename_i h1
      refine ⟨h, ⟨h.ln, wf0, fun e => ?_⟩, rfl, rfl⟩
      have e' : r.lk = 4 := e
      rcases Bool.or_eq_true_iff.1 h1 with h2 | h2
      · rcases h.lk.1 h2 with h3 | h3 <;> omega
      · have := h.lk.2 h2; omega
    · rename_i h1
      split
      · exact ⟨h, outO_w wf0 (by decide), rfl, rfl⟩
      · have ho : r.over = false := by rcases hh : r.over with _ | _; rfl; rw [hh] at h1; simp at h1
        have hw : r.waiting = false := by rcases hh : r.waiting with _ | _; rfl; rw [hh] at h1; simp at h1
        obtain ⟨g1, g2, g3, g4⟩ := stepR_w hl h ho hw
        split
        · obtain ⟨k1, k2, k3, k4⟩ := runR_w hl f g1
          exact ⟨k1, k2, k3.trans g3, k4.trans g4⟩
        · exact ⟨g1, g2, g3, g4⟩
theorem ActOk.runW {a : ActS} (h : ActOk a) : RunW a.d.r := ⟨h.kid, by rw [h.self]; exact h.ref, h.ln, h.lk⟩
/-- an actor that ran, and does not wait -/
theorem ActOk.run {a : ActS} (h : ActOk a) (f : Nat) (hw : a.waits = false) : ActOk { a with d := (runD f a.d).1 } ∧ OutW (runD f a.d).2 := by
  obtain ⟨g1, g2, g3, g4⟩ := runR_w h.stps f h.runW
  have e : ∀ q : DiaS, q = (runD f a.d).1 → q.r = (runR a.d.l f a.d.r).1 ∧ q.l = a.d.l := fun q hq => by
    subst hq
    unfold runD
    dsimp only
    split <;> exact ⟨rfl, rfl⟩
  obtain ⟨e1, e2⟩ := e _ rfl
  refine ⟨⟨h.box, h.ref, ?_, ?_, ?_, fun hh => ?_, ?_, ?_⟩, g2⟩
  · show Wf (runD f a.d).1.r.kid; rw [e1]; exact g1.kid
  · show (runD f a.d).1.r.self = a.ref; rw [e1, g4]; exact h.self
  · show StpsWf (runD f a.d).1.l; rw [e2]; exact h.stps
  · rw [show a.waits = true from hh] at hw; cases hw
  · show Wf (runD f a.d).1.r.ln; rw [e1]; exact g1.ln
  · show ((runD f a.d).1.r.over = true → _) ∧ _; rw [e1]; exact g1.lk
/-- what offers, ends of waits and references leave of a diary -/
structure SameD (d d' : DiaS) : Prop where
  l : d'.l = d.l
  kid : d'.r.kid = d.r.kid
  self : d'.r.self = d.r.self
  ln : d'.r.ln = d.r.ln
  lk : d'.r.lk = d.r.lk
  over : d'.r.over = d.r.over
  wt : d'.r.waiting = true → d.r.waiting = true
theorem SameD.refl (d : DiaS) : SameD d d := ⟨rfl, rfl, rfl, rfl, rfl, rfl, fun h => h⟩
theorem offerD_same (d : DiaS) (v : VT) : SameD d (offerD d v).1 := by
  unfold offerD
  split
  · dsimp only
    split
    · unfold offerR
      split
      · split
        · exact ⟨rfl, rfl, rfl, rfl, rfl, rfl, fun h => by cases h⟩
        · exact ⟨rfl, rfl, rfl, rfl, rfl, rfl, fun h => h⟩
      · exact ⟨rfl, rfl, rfl, rfl, rfl, rfl, fun h => h⟩
    · exact SameD.refl d
  · exact SameD.refl d
theorem lateD_same (d : DiaS) : SameD d (lateD d) := by
  unfold lateD
  split
  · unfold lateR
    split
    · exact ⟨rfl, rfl, rfl, rfl, rfl, rfl, fun h => by cases h⟩
    · exact ⟨rfl, rfl, rfl, rfl, rfl, rfl, fun h => h⟩
  · exact SameD.refl d
theorem ActOk.same {a : ActS} (h : ActOk a) {d : DiaS} (hd : SameD a.d d) {box : List LT} {pos : Nat} {kn : Int → Bool} (hb : BoxOk box pos) : ActOk { a with d := d, box := box, pos := pos, waits := false, knows := kn } :=
  ⟨hb, h.ref, by show Wf d.r.kid; rw [hd.kid]; exact h.kid, by show d.r.self = a.ref; rw [hd.self]; exact h.self, by show StpsWf d.l; rw [hd.l]; exact h.stps, (fun e => by cases e), by show Wf d.r.ln; rw [hd.ln]; exact h.ln, by
    show (d.r.over = true → d.r.lk = 8 ∨ d.r.lk = 9) ∧ (d.r.waiting = true → d.r.lk = 7)
    rw [hd.over, hd.lk]
    exact ⟨h.lk.1, fun e => h.lk.2 (hd.wt e)⟩⟩
theorem wakeA_ok {a : ActS} (h : ActOk a) : ActOk (wakeA a).1 ∧ (wakeA a).1.ref = a.ref ∧ ((wakeA a).2 = true → (wakeA a).1.waits = false) := by
  obtain ⟨b1, b2, b3⟩ := h.box
  unfold wakeA
  split
  · rename_i i hi
    refine ⟨h.same (offerD_same _ _) ⟨?_, Nat.zero_le _, fun x hx => b3 x (List.mem_of_mem_eraseIdx hx)⟩, rfl, fun _ => rfl⟩
    exact Nat.le_trans (List.length_eraseIdx_le _ _) b1
  · split
    · exact ⟨h.same (lateD_same _) ⟨b1, Nat.le_refl _, b3⟩, rfl, fun _ => rfl⟩
    · exact ⟨{ h with box := ⟨b1, Nat.le_refl _, b3⟩ }, rfl, fun e => by cases e⟩
theorem waitA_ok {a : ActS} (h : ActOk a) (h7 : a.d.dk = 7) (n : Int) : ActOk (waitA a n) :=
  { h with box := ⟨h.box.1, Nat.zero_le _, h.box.2.2⟩, waits := fun _ => h7 }
theorem giveA_ok {a : ActS} (h : ActOk a) (hw : a.waits = false) {x : Int} (hx : Wf x) : ActOk (giveA a x) := by
  have e : (giveA a x).d = giveD a.d x := rfl
  have hd : (giveD a.d x).l = a.d.l ∧ Wf (giveD a.d x).r.kid ∧ (giveD a.d x).r.self = a.d.r.self ∧ (giveD a.d x).r.ln = a.d.r.ln ∧ (giveD a.d x).r.lk = a.d.r.lk ∧ (giveD a.d x).r.over = a.d.r.over ∧ (giveD a.d x).r.waiting = a.d.r.waiting := by
    unfold giveD
    split
    · unfold giveR
      split
      · exact ⟨rfl, hx, rfl, rfl, rfl, rfl, rfl⟩
      · exact ⟨rfl, h.kid, rfl, rfl, rfl, rfl, rfl⟩
    · exact ⟨rfl, h.kid, rfl, rfl, rfl, rfl, rfl⟩
  obtain ⟨d1, d2, d3, d4, d5, d6, d7⟩ := hd
  exact ⟨h.box, h.ref, d2, by show (giveD a.d x).r.self = a.ref; rw [d3]; exact h.self, by show StpsWf (giveD a.d x).l; rw [d1]; exact h.stps, (fun hh => by rw [show a.waits = true from hh] at hw; cases hw), by show Wf (giveD a.d x).r.ln; rw [d4]; exact h.ln, by
    show ((giveD a.d x).r.over = true → (giveD a.d x).r.lk = 8 ∨ (giveD a.d x).r.lk = 9) ∧ ((giveD a.d x).r.waiting = true → (giveD a.d x).r.lk = 7)
    rw [d5, d6, d7]
    exact h.lk⟩
end Go.Proofs.YtjjfglbcikaicaaGreat
