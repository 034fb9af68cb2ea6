/- copies.Saved without inputs, a diary's Save, addSaved; box.Again; runnable. A diary's Save, addSaved; box.Again; runnable. An actor waits. How a node lies in memory: the node whole. Stores into a node. -/
import Derived.Test.YthgbcgphkddmgaaGreatZAM
import Derived.Test.YthgbcgphkddmgaaGreatZAH
import Derived.Deep.CondSized
namespace Go.Proofs.YthgbcgphkddmgaaGreat
open Go.RowKit Go.Maps
set_option linter.unusedVariables false
set_option linter.unusedSimpArgs false
set_option maxRecDepth 100000 in
set_option maxHeartbeats 400000 in
theorem ieach_nil (f : Value) (w : World) : Calls Tryz.prog 211 #[.slice none 0 0, f] w fun e w' => e = .returned (.slice none 0 0) ∧ w' = w := by
  go_enter Tryz.func211, Tryz.ntmps211
  go_wp2_with fail
  go_loopw [5, 7, 10] (fun v _ i wr => v = .slice none 0 0 ∧ i = .int .i64 0 ∧ wr = w) (fun _ _ _ _ => 0)
  case atStart => exact ⟨rfl, rfl, rfl⟩
  case round =>
    obtain ⟨rfl, rfl, rfl⟩ := hrel
    go_wp2_with fail
    go_ret
    exact ⟨rfl, rfl⟩
def SavedPost (nm : ByteArray) (n : Nat) (arg : Nat → VT) (w : World) (v : Value → Value) (e : Ending) (w' : World) : Prop :=
  ∃ A c, e = .returned (v (.agg #[.string nm, .slice A n c, .slice none 0 0])) ∧ n ≤ c ∧ c ≤ 9223372036854775807 ∧ RdV w' (fun b => w.heap.size ≤ b) A n arg ∧ Below w.heap.size w w'
set_option maxRecDepth 100000 in
set_option maxHeartbeats 4000000 in
theorem saved_any (nm : ByteArray) (n c : Nat) (A : Option Addr) (arg : Nat → VT) (S : Nat → Prop) (w : World) (hn : n ≤ 4194304) (hV : RdV w S A n arg) (hm : ∀ i, i < n → (arg i).many ≤ 4194304) :
    Calls Tryz.prog 195 #[.agg #[.string nm, .slice A n c, .slice none 0 0]] w (SavedPost nm n arg w id) := by
  have HV := Lib.hid hV
  have HM := Lib.hid hm
  obtain ⟨W, hW⟩ : ∃ W, W = (w.alloc (.cells #[.string nm, .slice A n c, .slice none 0 0] 204)).alloc (.cells #[.string ⟨#[]⟩, .slice none 0 0, .slice none 0 0] 204) := ⟨_, rfl⟩
  have HF := Lib.hid (show Below w.heap.size w W by rw [hW]; exact ((Below.refl _ _).alloc (Nat.le_refl _) _).alloc (by simp) _)
  have z0 : W.cell? ⟨w.heap.size, 0, none⟩ = some (.string nm) := by rw [hW]; simp [go_sem]
  have z1 : W.cell? ⟨w.heap.size, 1, none⟩ = some (.slice A n c) := by rw [hW]; simp [go_sem]
  have z2 : W.cell? ⟨w.heap.size, 2, none⟩ = some (.slice none 0 0) := by rw [hW]; simp [go_sem]
  have zf : ∀ o, W.frozen? ⟨w.heap.size, o, none⟩ = false := by intro o; rw [hW]; simp [go_sem]
  have y0 : W.cell? ⟨w.heap.size + 1, 0, none⟩ = some (.string ⟨#[]⟩) := by rw [hW]; simp [go_sem]
  have y1 : W.cell? ⟨w.heap.size + 1, 1, none⟩ = some (.slice none 0 0) := by rw [hW]; simp [go_sem]
  have y2 : W.cell? ⟨w.heap.size + 1, 2, none⟩ = some (.slice none 0 0) := by rw [hW]; simp [go_sem]
  have yf : ∀ o, W.frozen? ⟨w.heap.size + 1, o, none⟩ = false := by intro o; rw [hW]; simp [go_sem]
  have hz : w.heap.size + 2 = W.heap.size := by rw [hW]; simp
  have HVD := Lib.hid (show RdV W.drew S A n arg from RdV.frame hV HF.out.size (fun b hb hlt => ⟨hb, HF.out.block b hlt⟩))
  have HWW := Lib.hid hW
  clear hV hm hW
  go_enter Tryz.func195, Tryz.ntmps195
  go_wp2_with fail
  rw [← HWW.out]
  go_cut [] (fun wx => ∃ A' c', Hid (n ≤ c' ∧ c' ≤ 9223372036854775807 ∧ RdV wx (fun b => w.heap.size ≤ b ∧ b ≠ w.heap.size ∧ b ≠ w.heap.size + 1) A' n arg) ∧ Hid (Below w.heap.size w wx) ∧ wx.cell? ⟨w.heap.size, 0, none⟩ = some (.string nm) ∧ wx.cell? ⟨w.heap.size, 1, none⟩ = some (.slice A' n c') ∧ wx.cell? ⟨w.heap.size, 2, none⟩ = some (.slice none 0 0) ∧ wx.cell? ⟨w.heap.size + 1, 0, none⟩ = some (.string ⟨#[]⟩) ∧ wx.cell? ⟨w.heap.size + 1, 1, none⟩ = some (.slice none 0 0) ∧ wx.cell? ⟨w.heap.size + 1, 2, none⟩ = some (.slice none 0 0) ∧ (∀ o, wx.frozen? ⟨w.heap.size + 1, o, none⟩ = false))
  case first =>
    go_region_with (first
      | (go_at_call 112; refine (values_any n c A arg S W.drew hn HVD.out HM.out).mono ?_; rintro e w1 ⟨v1, C1, rfl, ho1, hl1, hv1, hb1⟩; obtain ⟨A1, c1, rfl, q1, q2, q3⟩ := each_rdv ho1 hl1 hv1; have HB1 := Lib.hid (show Below W.heap.size W w1 from ((Below.refl _ _).drew).trans hb1); have HQ := Lib.hid (And.intro q1 (And.intro q2 q3)); have hfr := Fr.of_below (S := fun _ => False) HB1.out; have z0' := hfr.cell z0 (fun h => h); have z1' := hfr.cell z1 (fun h => h); have z2' := hfr.cell z2 (fun h => h); have zf' := (fun o => (hfr.frozen (b := w.heap.size) (o := o) (by omega) (fun h => h)).trans (zf o) : ∀ o, w1.frozen? ⟨w.heap.size, o, none⟩ = false); have y0' := hfr.cell y0 (fun h => h); have y1' := hfr.cell y1 (fun h => h); have y2' := hfr.cell y2 (fun h => h); have yf' := (fun o => (hfr.frozen (b := w.heap.size + 1) (o := o) (by omega) (fun h => h)).trans (yf o) : ∀ o, w1.frozen? ⟨w.heap.size + 1, o, none⟩ = false); clear ho1 hl1 hv1 hb1 q1 q2 q3)
      | (go_at_call 211; refine (ieach_nil _ _).mono ?_; rintro e w2 ⟨rfl, rfl⟩))
    all_goals
      go_wp2_with fail
      go_meet
      refine ⟨A1, c1, Lib.hid ⟨HQ.out.1, HQ.out.2.1, RdV.frame HQ.out.2.2 (by simp) (fun b hb hlt => ?_)⟩, Lib.hid ?_, by simp [go_sem, z0'], by simp [go_sem, z1'], by simp [go_sem, z2'], by simp [go_sem, y0'], by simp [go_sem, y1'], by simp [go_sem, y2'], fun o => by simp [go_sem, yf']⟩
      · have hb' : W.heap.size ≤ b := hb
        refine ⟨⟨by omega, by omega, by omega⟩, ?_⟩
        iterate 2 (refine blk_setN ?_ (by omega))
        rfl
      · exact ((HF.out.trans (HB1.out.mono (by omega))).setCell (Nat.le_refl _) _).setCell (Nat.le_refl _) _
  case rest =>
    obtain ⟨A', c', HQ, HB, x0, x1, x2, v0, v1, v2, vf⟩ := hcut
    have hzc := HB.out.size
    clear z0 z1 z2 zf y0 y1 y2 yf
    have i0 : (wc.cell? ⟨w.heap.size + 1, 0, none⟩).isSome = true := by rw [v0]; rfl
    have i1 : (wc.cell? ⟨w.heap.size + 1, 1, none⟩).isSome = true := by rw [v1]; rfl
    have i2 : (wc.cell? ⟨w.heap.size + 1, 2, none⟩).isSome = true := by rw [v2]; rfl
    go_wp2_with fail
    refine bodyPost_ret (v := .agg #[.string nm, .slice A' n c', .slice none 0 0]) (by simp [results, Tryz.results195, go_sem, i0, i1, i2]) rfl ⟨A', c', rfl, HQ.out.1, HQ.out.2.1, ?_, ?_⟩
    · refine RdV.frame HQ.out.2.2 (by simp) (fun b hb hlt => ⟨hb.1, ?_⟩)
      iterate 3 (refine blk_setN ?_ hb.2.2)
      rfl
    · iterate 3 (refine below_set ?_ (by omega))
      exact HB.out
end Go.Proofs.YthgbcgphkddmgaaGreat
namespace Go.Proofs.YthgbcgphkddmgaaGreat
open Go.RowKit Go.Maps
set_option linter.unusedVariables false
set_option linter.unusedSimpArgs false
theorem RdV.below {w w' : World} {S : Nat → Prop} {A : Option Addr} {n : Nat} {arg : Nat → VT} (h : RdV w S A n arg) (hb : Below w.heap.size w w') : RdV w' S A n arg := h.frame hb.size (fun b hs hl => ⟨hs, hb.block b hl⟩)
set_option maxRecDepth 100000 in
set_option maxHeartbeats 4000000 in
theorem dsave_any (X : Nat → Prop) (base T b rb : Nat) (ib : Option Nat) (d : DiaS) (w : World) (H : DiaAt w X base T b rb ib d) (h7 : d.dk = 7) :
    Calls Tryz.prog 165 #[.pointer (some ⟨b, 0, none⟩)] w (SavedPost d.nm d.r.st.length (topV d.r) w (fun v => .tuple #[v, .int .i64 0])) := by
  obtain ⟨A2, n2, c2, e2, f2⟩ := H.c2
  obtain ⟨rfl, f3, f4, hV⟩ := f2 h7
  have hn10 := H.pl.len
  obtain ⟨A3, n3, c3, xs, e3, _, _, _, f5⟩ := H.c3
  obtain ⟨rfl, rfl, rfl⟩ := f5 h7
  have c1 := H.c1
  have c4 := H.c4
  rw [h7] at c4
  have hlt := H.lt.1
  obtain ⟨W, hW⟩ : ∃ W, W = w.alloc (.cells #[.string ⟨#[]⟩, .slice none 0 0, .slice none 0 0] 204) := ⟨_, rfl⟩
  have HF := Lib.hid (show Below w.heap.size w W by rw [hW]; exact (Below.refl _ _).alloc (Nat.le_refl _) _)
  have HV := Lib.hid (show RdV W (fun k => ¬ X k) A2 d.r.st.length (topV d.r) from hV.below HF.out)
  have y0 : W.cell? ⟨w.heap.size, 0, none⟩ = some (.string ⟨#[]⟩) := by rw [hW]; simp [go_sem]
  have y1 : W.cell? ⟨w.heap.size, 1, none⟩ = some (.slice none 0 0) := by rw [hW]; simp [go_sem]
  have y2 : W.cell? ⟨w.heap.size, 2, none⟩ = some (.slice none 0 0) := by rw [hW]; simp [go_sem]
  have yf : ∀ o, W.frozen? ⟨w.heap.size, o, none⟩ = false := by intro o; rw [hW]; simp [go_sem]
  have hz : w.heap.size + 1 = W.heap.size := by rw [hW]; simp
  have HWW := Lib.hid hW
  clear H f2 f5 h7 hV hW
  go_enter Tryz.func165, Tryz.ntmps165
  go_wp2_with fail
  rw [← HWW.out]
  refine (saved_any d.nm d.r.st.length c2 A2 (topV d.r) _ W (by omega) HV.out (fun i _ => by simp [topV, vLeaf, VT.many, sumTo])).mono ?_
  rintro e w1 ⟨A', c', rfl, q1, q2, q3, hb1⟩
  have hfr := Fr.of_below (S := fun _ => False) hb1
  have x0 := hfr.cell y0 (fun h => h)
  have x1 := hfr.cell y1 (fun h => h)
  have x2 := hfr.cell y2 (fun h => h)
  have xf : ∀ o, w1.frozen? ⟨w.heap.size, o, none⟩ = false := fun o => (hfr.frozen (b := w.heap.size) (o := o) (by omega) (fun h => h)).trans (yf o)
  have HQ := Lib.hid q3
  have HB := Lib.hid hb1
  have hz1 := hb1.size
  have i0 : (w1.cell? ⟨w.heap.size, 0, none⟩).isSome = true := by rw [x0]; rfl
  have i1 : (w1.cell? ⟨w.heap.size, 1, none⟩).isSome = true := by rw [x1]; rfl
  have i2 : (w1.cell? ⟨w.heap.size, 2, none⟩).isSome = true := by rw [x2]; rfl
  clear hfr q3 hb1 y0 y1 y2 yf
  simp only [id]
  go_wp2_with fail
  refine bodyPost_ret (v := .tuple #[.agg #[.string d.nm, .slice A' d.r.st.length c', .slice none 0 0], .int .i64 0]) (by simp [results, Tryz.results165, go_sem, i0, i1, i2]) rfl ⟨A', c', rfl, q1, q2, ?_, ?_⟩
  · refine RdV.frame HQ.out (by simp) (fun b hb hlt => ⟨by have : W.heap.size ≤ b := hb; omega, ?_⟩)
    have hb' : W.heap.size ≤ b := hb
    iterate 3 (refine blk_setN ?_ (by omega))
    rfl
  · iterate 3 (refine below_set ?_ (by omega))
    exact HF.out.trans (HB.out.mono (by omega))
def anyV (arg : Nat → VT) (n : Nat) (x : Int) : Bool := anyOf (fun i => refsV (arg i) x) n
set_option maxRecDepth 100000 in
set_option maxHeartbeats 4000000 in
theorem addSaved_any (nm : ByteArray) (na c : Nat) (A : Option Addr) (arg : Nat → VT) (S : Nat → Prop) (kb n : Nat) (p : Int → Bool) (w : World) (hV : RdV w S A na arg) (hS : ∀ k, S k → k ≠ kb) (hwf : ∀ i, i < na → (arg i).wf) (hm : ∀ i, i < na → (arg i).many ≤ 10) (hna : na ≤ 10) (ho : OwnM w kb n (knG p)) (hn : n + 100 ≤ 1000000000000) :
    Calls Tryz.prog 166 #[.map (some kb), .agg #[.string nm, .slice A na c, .slice none 0 0]] w fun e w' => e = .returned (.tuple #[]) ∧ Fr (fun k => k = kb) w w' ∧ ∃ n', n' ≤ n + 100 ∧ OwnM w' kb n' (knG fun x => p x || anyV arg na x) := by
  have HV := Lib.hid hV
  have HS := Lib.hid hS
  have HWF := Lib.hid hwf
  have HM := Lib.hid hm
  have hkb := ho.lt
  have HF0 := Lib.hid (show Fr (fun k => k = kb) w (w.alloc (.cells #[.string nm, .slice A na c, .slice none 0 0] 204)) from (Fr.refl _ _).alloc _)
  have HO := Lib.hid (show OwnM (w.alloc (.cells #[.string nm, .slice A na c, .slice none 0 0] 204)) kb n (knG fun x => p x || anyV arg 0 x) from by
    have := ho.fr (S := fun _ => False) ((Fr.refl _ w).alloc (.cells #[.string nm, .slice A na c, .slice none 0 0] 204)) (fun h => h)
    have e : (fun x => p x || anyV arg 0 x) = p := by funext x; unfold anyV; rw [anyOf_nil]; simp
    rw [e]; exact this)
  have hfz : (w.alloc (.cells #[.string nm, .slice A na c, .slice none 0 0] 204)).cell? ⟨w.heap.size, 2, none⟩ = some (.slice none 0 0) := by simp [go_sem]
  clear hV hS hwf hm ho
  go_enter Tryz.func166, Tryz.ntmps166
  go_wp2_with fail
  go_loopw [5, 11] (fun _ i wr => ∃ q n2 : Nat, q ≤ na ∧ i = .int .i64 q ∧ Hid (Fr (fun k => k = kb) w wr) ∧ n2 ≤ n + 10 * q ∧ Hid (OwnM wr kb n2 (knG fun x => p x || anyV arg q x)) ∧ wr.cell? ⟨w.heap.size, 2, none⟩ = some (.slice none 0 0)) (fun _ i _ => na - (intOf i).toNat)
  case atStart => exact ⟨0, n, Nat.zero_le _, rfl, HF0, by omega, HO, hfz⟩
  case round =>
    obtain ⟨q, n2, hq, rfl, HFr, hn2, HOr, hz⟩ := hrel
    clear hfz
    by_cases hlt : q < na
    · obtain ⟨b, off, rfl, hb, hSb, C, hC⟩ := HV.out (by omega)
      obtain ⟨hV, hcell⟩ := hC q hlt
      have hbk : b ≠ kb := HS.out b hSb
      have hVr := Lib.hid (isV_frame (w' := wr) (S' := S) HFr.out.size (fun b hs hlt => ⟨hs, HFr.out.block b hlt (HS.out b hs)⟩) hV)
      obtain ⟨k', m', s', A', n', c', hCq⟩ := isV_cells hV
      rw [hCq] at hVr hcell
      have c0 : wr.cell? ⟨b, off + q * 4, none⟩ = some (.int .i64 k') := HFr.out.cell (hcell 0 _ rfl) hbk
      have c1 : wr.cell? ⟨b, off + q * 4 + 1, none⟩ = some (.int .i64 m') := HFr.out.cell (hcell 1 _ rfl) hbk
      have c2 : wr.cell? ⟨b, off + q * 4 + 2, none⟩ = some (.string s') := HFr.out.cell (hcell 2 _ rfl) hbk
      have c3 : wr.cell? ⟨b, off + q * 4 + 3, none⟩ = some (.slice A' n' c') := HFr.out.cell (hcell 3 _ rfl) hbk
      have hmq := HM.out q hlt
      have hsz := HFr.out.size
      obtain ⟨W2, hW2⟩ : ∃ W2, W2 = wr.alloc (.cells #[.int .i64 k', .int .i64 m', .string s', .slice A' n' c'] 36) := ⟨_, rfl⟩
      have hf2 : Fr (fun _ => False) wr W2 := by rw [hW2]; exact (Fr.refl _ _).alloc _
      have hcall := radd_any (arg q) [.int .i64 k', .int .i64 m', .string s', .slice A' n' c'] S kb n2 (fun x => p x || anyV arg q x) W2 (isV_frame hf2.size (fun b hs hlt => ⟨hs, hf2.block b hlt (fun h => h)⟩) hVr.out) (HWF.out q hlt) (by omega) HS.out (HOr.out.fr hf2 (fun h => h)) (by omega)
      have hz2 := hf2.cell hz (fun h => h)
      have hne : w.heap.size ≠ kb := by omega
      have HCALL := Lib.hid hcall
      have HF2 := Lib.hid hf2
      have HW2 := Lib.hid hW2
      clear hVr hcell hCq hcall hV hf2 hW2
      go_wp2_with fail
      rw [← HW2.out]
      refine HCALL.out.mono ?_
      rintro e w3 ⟨rfl, hf3, n3, hn3, ho3⟩
      have HO3 := Lib.hid ho3
      have HF3 := Lib.hid hf3
      have hz3 := hf3.cell hz2 hne
      clear ho3 hf3 c0 c1 c2 c3 hz2 hz
      go_wp2_with fail
      go_roundw
      case rel =>
        refine ⟨q + 1, n3, by omega, by go_num, Lib.hid ((HFr.out.trans' (HF2.out.weak (fun _ h => h.elim))).trans' HF3.out), by omega, Lib.hid ?_, hz3⟩
        have := HO3.out
        unfold anyV at this ⊢
        simpa [anyOf_up, Bool.or_assoc] using this
      case measure => simp [intOf]; omega
    · obtain rfl : q = na := by omega
      go_wp2_with fail
      go_loopw [7, 22] (fun _ i wq => i = .int .i64 0 ∧ wq = wr) (fun _ _ _ => 0)
      case atStart => exact ⟨rfl, rfl⟩
      case round =>
        obtain ⟨rfl, rfl⟩ := hrel
        go_wp2_with fail
        exact bodyPost_end (results_none rfl _ _ _) rfl ⟨rfl, HFr.out, n2, by omega, HOr.out⟩
set_option maxRecDepth 100000 in
set_option maxHeartbeats 4000000 in
theorem again_any (n c : Nat) (A : Option Addr) (at_ : Int) (arg : Nat → LT) (S : Nat → Prop) (w : World) (hnc : n ≤ c) (hcm : c ≤ 9223372036854775807) (hR : RdL w S A n arg) (ok : OkBox n at_ arg) (hm : ∀ i, i < n → (arg i).val.many ≤ 4194304) :
    Calls Tryz.prog 164 #[.agg #[.slice A n c, .int .i64 at_]] w fun e w' => ∃ A' c', e = .returned (.tuple #[.agg #[.slice A' n c', .int .i64 0], .int .i64 0]) ∧ n ≤ c' ∧ c' ≤ 9223372036854775807 ∧ RdL w' (fun b => w.heap.size ≤ b) A' n arg ∧ Below w.heap.size w w' := by
  obtain ⟨W, hW⟩ : ∃ W, W = (w.alloc (.cells #[.slice A n c, .int .i64 at_] 146)).alloc (.cells #[.slice none 0 0, .int .i64 0] 146) := ⟨_, rfl⟩
  have HF := Lib.hid (show Below w.heap.size w W by rw [hW]; exact ((Below.refl _ _).alloc (Nat.le_refl _) _).alloc (by simp) _)
  have HR := Lib.hid (hR.below HF.out)
  have HM := Lib.hid hm
  have hn60 := ok.1
  have HOK := Lib.hid ok
  have z0 : W.cell? ⟨w.heap.size, 0, none⟩ = some (.slice A n c) := by rw [hW]; simp [go_sem]
  have z1 : W.cell? ⟨w.heap.size, 1, none⟩ = some (.int .i64 at_) := by rw [hW]; simp [go_sem]
  have y0 : W.cell? ⟨w.heap.size + 1, 0, none⟩ = some (.slice none 0 0) := by rw [hW]; simp [go_sem]
  have y1 : W.cell? ⟨w.heap.size + 1, 1, none⟩ = some (.int .i64 0) := by rw [hW]; simp [go_sem]
  have yf : ∀ o, W.frozen? ⟨w.heap.size + 1, o, none⟩ = false := by intro o; rw [hW]; simp [go_sem]
  have hz : w.heap.size + 2 = W.heap.size := by rw [hW]; simp
  have HWW := Lib.hid hW
  clear hR ok hm hW
  go_enter Tryz.func164, Tryz.ntmps164
  go_wp2_with fail
  rw [← HWW.out]
  refine (boxCheck_ok n c A at_ arg S W (by omega) HR.out HOK.out).mono ?_
  rintro e w1 ⟨rfl, hb1⟩
  have hfr := Fr.of_below (S := fun _ => False) hb1
  have z0' := hfr.cell z0 (fun h => h)
  have y0' := hfr.cell y0 (fun h => h)
  have y1' := hfr.cell y1 (fun h => h)
  have yf' : ∀ o, w1.frozen? ⟨w.heap.size + 1, o, none⟩ = false := fun o => (hfr.frozen (b := w.heap.size + 1) (o := o) (by omega) (fun h => h)).trans (yf o)
  have HR1 := Lib.hid (HR.out.below hb1)
  have HB1 := Lib.hid hb1
  have hz1 := hb1.size
  clear hfr hb1 z0 z1 y0 y1 yf
  go_wp2_with fail
  refine (leach_any n c A arg S w1 (by omega) HR1.out HM.out).mono ?_
  rintro e w2 ⟨v, C, rfl, hown, hCl, hCv, hb2⟩
  have HLR := Lib.hid (LRow.mk (arg := arg) hown hCl hCv)
  obtain ⟨A2, cap, rfl, hnc2, hcm2, hA2⟩ := own_any hown
  have hfr := Fr.of_below (S := fun _ => False) hb2
  have v0 := hfr.cell y0' (fun h => h)
  have v1 := hfr.cell y1' (fun h => h)
  have vf : ∀ o, w2.frozen? ⟨w.heap.size + 1, o, none⟩ = false := fun o => (hfr.frozen (b := w.heap.size + 1) (o := o) (by omega) (fun h => h)).trans (yf' o)
  have i0 : (w2.cell? ⟨w.heap.size + 1, 0, none⟩).isSome = true := by rw [v0]; rfl
  have i1 : (w2.cell? ⟨w.heap.size + 1, 1, none⟩).isSome = true := by rw [v1]; rfl
  have HB2 := Lib.hid hb2
  have hz2 := hb2.size
  clear hfr hb2 y0' y1' yf' hown hCl hCv
  go_wp2_with fail
  refine bodyPost_ret (v := .tuple #[.agg #[.slice A2 n cap, .int .i64 0], .int .i64 0]) (by simp [results, Tryz.results164, go_sem, i0, i1]) rfl ⟨A2, cap, rfl, hnc2, hcm2, ?_, ?_⟩
  · refine RdL.frame HLR.out.rd (by simp) (fun b hb hlt => ⟨by have : w1.heap.size ≤ b := hb; omega, ?_⟩)
    have hb' : w1.heap.size ≤ b := hb
    iterate 2 (refine blk_setN ?_ (by omega))
    rfl
  · iterate 2 (refine below_set ?_ (by omega))
    exact (HF.out.trans (HB1.out.mono (by omega))).trans (HB2.out.mono (by omega))
set_option maxRecDepth 100000 in
set_option maxHeartbeats 4000000 in
theorem can_any (X : Nat → Prop) (base T : Nat) (MA : Nat → Prop) (p b rb kb : Nat) (ib : Option Nat) (a : ActS) (w : World) (H : ActG w X base T MA p b rb kb ib a) :
    Calls Tryz.prog 66 #[.pointer (some ⟨p, 0, none⟩)] w fun e w' => e = .returned (.bool (canA a)) ∧ ∃ q, w' = w.drewN q := by
  obtain ⟨A2, c2, e2, _⟩ := H.a2
  have a3 := H.a3
  have a4 := H.a4
  have a5 := H.a5
  have HC := Lib.hid (show canA a = (!a.waits || decide (a.pos < a.box.length) || decide (a.ticks = 0)) from rfl)
  clear H
  rcases hw : a.waits with _ | _
  · rw [hw] at a4 HC
    go_enter Tryz.func66, Tryz.ntmps66
    go_wp2_with fail
    go_region
    all_goals
      go_wp2_with fail
      go_ret
      rw [HC.out]
      exact ⟨rfl, 1, rfl⟩
  · rw [hw] at a4 HC
    by_cases hp : a.pos < a.box.length
    · have e1 : decide ((a.pos : Int) < (a.box.length : Int)) = true := by simpa using hp
      have e2' : decide (a.pos < a.box.length) = true := by simpa using hp
      have HE := Lib.hid e2'
      go_enter Tryz.func66, Tryz.ntmps66
      go_wp2_with fail
      go_region
      all_goals
        go_wp2_with fail
        go_ret
        rw [HC.out, HE.out]
        exact ⟨rfl, 1, rfl⟩
    · have e1 : decide ((a.pos : Int) < (a.box.length : Int)) = false := by simpa using hp
      have e2' : decide (a.pos < a.box.length) = false := by simpa using hp
      have HE := Lib.hid e2'
      rcases ht : decide (a.ticks = 0) with _ | _
      all_goals
        have HT := Lib.hid ht
        have ht' : (a.ticks == 0) = decide (a.ticks = 0) := by rfl
        rw [ht] at ht'
        go_enter Tryz.func66, Tryz.ntmps66
        go_wp2_with fail
        go_region
        all_goals
          go_wp2_with fail
          go_ret
          rw [HC.out, HE.out, HT.out]
          exact ⟨rfl, 1, rfl⟩
end Go.Proofs.YthgbcgphkddmgaaGreat
namespace Go.Proofs.YthgbcgphkddmgaaGreat
open Go.RowKit Go.Maps
set_option linter.unusedVariables false
set_option linter.unusedSimpArgs false
def LtWf (x : LT) : Prop := Wf x.frm ∧ Wf x.to ∧ Wf x.num ∧ x.val.wf ∧ x.val.many ≤ 1000
def BoxOk (l : List LT) (pos : Nat) : Prop := l.length ≤ 60 ∧ pos ≤ l.length ∧ ∀ x, x ∈ l → fitsB x.kind = true ∧ LtWf x
theorem nthL_mem {l : List LT} {i : Nat} (h : i < l.length) : nthL l i ∈ l := by
  unfold nthL
  rw [List.getD_eq_getElem?_getD, List.getElem?_eq_getElem h]
  exact List.getElem_mem h
theorem BoxOk.ok {l : List LT} {pos : Nat} (h : BoxOk l pos) : OkBox l.length (pos : Int) (nthL l) := ⟨h.1, by omega, by have := h.2.1; omega, fun i hi => (h.2.2 _ (nthL_mem hi)).1⟩
theorem BoxOk.many {l : List LT} {pos : Nat} (h : BoxOk l pos) : ∀ i, i < l.length → (nthL l i).val.many ≤ 4194304 := fun i hi => by have := (h.2.2 _ (nthL_mem hi)).2.2.2.2.2; omega
/-- what an actor's own method makes of it -/
def ActPost (X : Nat → Prop) (base T : Nat) (MA : Nat → Prop) (p : Nat) (a' : ActS) (w0 : World) (v : Value) (e : Ending) (w' : World) : Prop :=
  e = .returned v ∧ ∃ X' MA', (∀ k, X k → X' k) ∧ (∀ k, X' k → X k ∨ w0.heap.size ≤ k ∧ k < w'.heap.size) ∧ (∀ k, MA' k → MA k ∨ w0.heap.size ≤ k) ∧ (∀ k, MA' k → X' k) ∧ (∃ b rb kb ib, ActG w' X' base T MA' p b rb kb ib a') ∧ Fr MA w0 w'
theorem mkRefs : ∀ w, (Instr.makeMap 144 none).run Tryz.prog w = .ok (.map (some w.heap.size)) (w.alloc (.map #[] 0)) := fun w => by kernel_rfl
theorem anyV_top (r : RunS) (x : Int) : (false || anyV (topV r) r.st.length x) = stKn (topL r) x := by
  rw [Bool.false_or]
  unfold anyV stKn
  rw [topL_len]
  rfl
theorem topV_wf {r : RunS} (h : RunOk r) (i : Nat) : (topV r i).wf := by
  have key : Wf (stN (topL r) i).2 := by
    unfold topL
    split
    · unfold stN
      rw [List.getD_eq_getElem?_getD, List.getElem?_set]
      split
      · split
        · exact Wf.of (by decide) (by decide)
        · exact Wf.of (by decide) (by decide)
      · have := h.wf i
        unfold stN at this
        rw [List.getD_eq_getElem?_getD] at this
        exact this
    · exact h.wf i
  have := key.low
  exact ⟨⟨by show -9223372036854775808 ≤ (stN (topL r) i).2; omega, by show (stN (topL r) i).2 < 9223372036854775808; omega⟩, fun i hi => by omega⟩
set_option maxRecDepth 100000 in
set_option maxHeartbeats 8000000 in
theorem wait_any (X : Nat → Prop) (base T : Nat) (MA : Nat → Prop) (p b rb kb : Nat) (ib : Option Nat) (a : ActS) (tk : Int) (w : World) (H : ActG w X base T MA p b rb kb ib a) (hX : ∀ k, X k → k < w.heap.size) (hMX : ∀ k, MA k → X k) (hb : BoxOk a.box a.pos) (h7 : a.d.dk = 7) (hT : 100 ≤ T) (hT2 : T ≤ 1000000000000) (hbase : base ≤ w.heap.size) :
    Calls Tryz.prog 121 #[.pointer (some ⟨p, 0, none⟩), .int .i64 tk] w (ActPost X base T MA p (waitA a tk) w (.tuple #[])) := by
  have HH := Lib.hid H
  have hlt := H.lt.1
  obtain ⟨hp1, hp2, hp3, hp4, hp5, hp6⟩ := H.ap
  obtain ⟨hm1, hm2, hm3, hm4, hm5⟩ := H.mine
  obtain ⟨A2, c2, e2, l2, l3, hL⟩ := H.a2
  have a0 := H.a0
  have a1 := H.a1
  have a3 := H.a3
  have a4 := H.a4
  have a5 := H.a5
  have a6 := H.a6
  have fz := H.fz
  have HPL := Lib.hid HH.out.dia.pl
  have hn10 := HH.out.dia.pl.len
  have HL := Lib.hid hL
  have HX := Lib.hid hX
  have HMX := Lib.hid hMX
  have HB := Lib.hid hb
  have H7 := Lib.hid h7
  have hXp := hMX p hm1
  clear H hX hMX hb h7 hL
  go_enter Tryz.func121, Tryz.ntmps121
  go_wp2_with fail
  have HFr := Lib.hid (Fr.refl (fun k => k = p) w)
  refine (again_any a.box.length c2 A2 (a.pos : Int) (nthL a.box) (fun k => ¬ X k) _ l2 l3 (RdL.fr (S := fun k => k = p) HL.out ?_ (fun k hk => hk ▸ hXp) (fun k hk => .inl hk)) HB.out.ok HB.out.many).mono ?_
  · (repeat' first | with_reducible exact HFr.out | with_reducible exact Fr.refl _ _ | (with_reducible refine Fr.setAt ?_ _) | (with_reducible refine Fr.setNew ?_ _) | with_reducible refine Fr.alloc ?_ _ | with_reducible refine Fr.drewN ?_ _ | with_reducible refine Fr.drew ?_)
  rintro e w1 ⟨A3, c3, rfl, m2, m3, hL3, hb1⟩
  have HF1 := Lib.hid (show Fr (fun k => k = p) w w1 from (show Fr (fun k => k = p) w _ by (repeat' first | with_reducible exact HFr.out | with_reducible exact Fr.refl _ _ | (with_reducible refine Fr.setAt ?_ _) | (with_reducible refine Fr.setNew ?_ _) | with_reducible refine Fr.alloc ?_ _ | with_reducible refine Fr.drewN ?_ _ | with_reducible refine Fr.drew ?_)).trans' (Fr.of_below hb1))
  have hff := Fr.of_below (S := fun _ => False) hb1
  have b0 : w1.cell? ⟨p, 0, none⟩ = some (.pointer (some ⟨b, 0, none⟩)) := hff.cell (by simp [go_sem, a0]) (fun h => h)
  have b1 : w1.cell? ⟨p, 1, none⟩ = some (.int .i64 a.ref) := hff.cell (by simp [go_sem, a1]) (fun h => h)
  have b2 : w1.cell? ⟨p, 2, none⟩ = some (.slice A2 a.box.length c2) := hff.cell (by simp [go_sem, e2]) (fun h => h)
  have b3 : w1.cell? ⟨p, 3, none⟩ = some (.int .i64 a.pos) := hff.cell (by simp [go_sem, a3]) (fun h => h)
  have b4 : w1.cell? ⟨p, 4, none⟩ = some (.bool true) := hff.cell (by simp [go_sem, a4]) (fun h => h)
  have b5 : w1.cell? ⟨p, 5, none⟩ = some (.int .i64 tk) := hff.cell (by simp [go_sem, a5]) (fun h => h)
  have b6 : w1.cell? ⟨p, 6, none⟩ = some (.map (some kb)) := hff.cell (by simp [go_sem, a6]) (fun h => h)
  have bf : ∀ o, w1.frozen? ⟨p, o, none⟩ = false := fun o => (hff.frozen (by simpa using hlt) (fun h => h)).trans (by simp [go_sem, fz])
  have hz1 := HF1.out.size
  have hp1' : p < w1.heap.size := by omega
  have HL3 := Lib.hid hL3
  clear hff hb1 a0 a1 e2 a3 a4 a5 a6 fz hL3 HFr
  have HFr := HF1
  go_wp2_with fail
  refine (dsave_any X base T b rb ib a.d _ (DiaAt.fr (S := fun k => k = p) (X' := X) HH.out.dia ?_ (fun k hk => hk ▸ hXp) (fun k hk => .inl hk) (fun k hk => hk ▸ HH.out.lbp.1) (Nat.le_refl _) (fun e => hp1 e.symm) (fun e => hp2 e.symm) (fun k hk e => (hp6 k hk).1 e)) H7.out).mono ?_
  · (repeat' first | with_reducible exact HFr.out | with_reducible exact Fr.refl _ _ | (with_reducible refine Fr.setAt ?_ _) | (with_reducible refine Fr.setNew ?_ _) | with_reducible refine Fr.alloc ?_ _ | with_reducible refine Fr.drewN ?_ _ | with_reducible refine Fr.drew ?_)
  rintro e w2 ⟨A4, c4, rfl, n2, n3, hV4, hb2⟩
  have HF2 := Lib.hid (show Fr (fun k => k = p) w w2 from (show Fr (fun k => k = p) w _ by (repeat' first | with_reducible exact HFr.out | with_reducible exact Fr.refl _ _ | (with_reducible refine Fr.setAt ?_ _) | (with_reducible refine Fr.setNew ?_ _) | with_reducible refine Fr.alloc ?_ _ | with_reducible refine Fr.drewN ?_ _ | with_reducible refine Fr.drew ?_)).trans' (Fr.of_below hb2))
  have hff := Fr.of_below (S := fun _ => False) hb2
  have g0 : w2.cell? ⟨p, 0, none⟩ = some (.pointer (some ⟨b, 0, none⟩)) := hff.cell (by simp [go_sem, hp1', b0]) (fun h => h)
  have g1 : w2.cell? ⟨p, 1, none⟩ = some (.int .i64 a.ref) := hff.cell (by simp [go_sem, hp1', b1]) (fun h => h)
  have g2 : w2.cell? ⟨p, 2, none⟩ = some (.slice A3 a.box.length c3) := hff.cell (by simp [go_sem, hp1', b2]) (fun h => h)
  have g3 : w2.cell? ⟨p, 3, none⟩ = some (.int .i64 0) := hff.cell (by simp [go_sem, hp1', b3]) (fun h => h)
  have g4 : w2.cell? ⟨p, 4, none⟩ = some (.bool true) := hff.cell (by simp [go_sem, hp1', b4]) (fun h => h)
  have g5 : w2.cell? ⟨p, 5, none⟩ = some (.int .i64 tk) := hff.cell (by simp [go_sem, hp1', b5]) (fun h => h)
  have g6 : w2.cell? ⟨p, 6, none⟩ = some (.map (some kb)) := hff.cell (by simp [go_sem, hp1', b6]) (fun h => h)
  have gf : ∀ o, w2.frozen? ⟨p, o, none⟩ = false := fun o => (hff.frozen (by simp; omega) (fun h => h)).trans (by simp [go_sem, hp1', bf])
  have hz2 := hb2.size
  simp at hz2
  have hp2' : p < w2.heap.size := by omega
  have hfx : Fr (fun k => k = p) w1 w2 := (show Fr (fun k => k = p) w1 _ by (repeat' first | with_reducible exact HFr.out | with_reducible exact Fr.refl _ _ | (with_reducible refine Fr.setAt ?_ _) | (with_reducible refine Fr.setNew ?_ _) | with_reducible refine Fr.alloc ?_ _ | with_reducible refine Fr.drewN ?_ _ | with_reducible refine Fr.drew ?_)).trans' (Fr.of_below hb2)
  have HL4 := Lib.hid (show RdL w2 (fun k => w.heap.size ≤ k) A3 a.box.length (nthL a.box) from RdL.frame HL3.out (by omega) (fun k hk hlt' => ⟨by
      have hk' := hk
      simp at hk'
      omega, hfx.block k hlt' (fun e => by
      have hk' := hk
      simp at hk'
      omega)⟩))
  have HV4 := Lib.hid (RdV.frame (S' := fun k => w1.heap.size ≤ k) hV4 (Nat.le_refl _) (fun k hk _ => ⟨by simp at hk; omega, rfl⟩))
  clear hfx hff hb2 b0 b1 b2 b3 b4 b5 b6 bf hV4 HFr
  have HFr := HF2
  dsimp only
  have hmk := mkRefs
  go_wp2_with fail
  obtain ⟨W5, hW5⟩ : ∃ W5, W5 = ((w2.setCell ⟨p, 6, none⟩ (.map (some (w2.heap.size + 1)))).alloc (.cells #[.string a.d.nm, .slice A4 a.d.r.st.length c4, .slice none 0 0] 204)).alloc (.map #[] 0) := ⟨_, rfl⟩
  rw [← hW5]
  have hf5 : Fr (fun k => k = p) w2 W5 := by rw [hW5]; (repeat' first | with_reducible exact HFr.out | with_reducible exact Fr.refl _ _ | (with_reducible refine Fr.setAt ?_ _) | (with_reducible refine Fr.setNew ?_ _) | with_reducible refine Fr.alloc ?_ _ | with_reducible refine Fr.drewN ?_ _ | with_reducible refine Fr.drew ?_)
  have HF5 := Lib.hid (show Fr (fun k => k = p) w W5 from HF2.out.trans' hf5)
  have hz5 : w2.heap.size + 2 = W5.heap.size := by rw [hW5]; simp
  have q6 : W5.cell? ⟨p, 6, none⟩ = some (.map (some (w2.heap.size + 1))) := by rw [hW5]; simp [go_sem, hp2', g6, show p < w2.heap.size + 1 by omega]
  have s0 : W5.cell? ⟨w2.heap.size, 0, none⟩ = some (.string a.d.nm) := by rw [hW5]; simp [go_sem]
  have s1 : W5.cell? ⟨w2.heap.size, 1, none⟩ = some (.slice A4 a.d.r.st.length c4) := by rw [hW5]; simp [go_sem]
  have s2 : W5.cell? ⟨w2.heap.size, 2, none⟩ = some (.slice none 0 0) := by rw [hW5]; simp [go_sem]
  have k0 : W5.cell? ⟨p, 0, none⟩ = some (.pointer (some ⟨b, 0, none⟩)) := by rw [hW5]; simp [go_sem, hp2', g0, show p < w2.heap.size + 1 by omega]
  have k1 : W5.cell? ⟨p, 1, none⟩ = some (.int .i64 a.ref) := by rw [hW5]; simp [go_sem, hp2', g1, show p < w2.heap.size + 1 by omega]
  have k2 : W5.cell? ⟨p, 2, none⟩ = some (.slice A3 a.box.length c3) := by rw [hW5]; simp [go_sem, hp2', g2, show p < w2.heap.size + 1 by omega]
  have k3 : W5.cell? ⟨p, 3, none⟩ = some (.int .i64 0) := by rw [hW5]; simp [go_sem, hp2', g3, show p < w2.heap.size + 1 by omega]
  have k4 : W5.cell? ⟨p, 4, none⟩ = some (.bool true) := by rw [hW5]; simp [go_sem, hp2', g4, show p < w2.heap.size + 1 by omega]
  have k5 : W5.cell? ⟨p, 5, none⟩ = some (.int .i64 tk) := by rw [hW5]; simp [go_sem, hp2', g5, show p < w2.heap.size + 1 by omega]
  have kf : ∀ o, W5.frozen? ⟨p, o, none⟩ = false := fun o => by rw [hW5]; simp [go_sem, hp2', gf, show p < w2.heap.size + 1 by omega]
  have hmap : OwnM W5 (w2.heap.size + 1) 0 (fun _ => none) := by
    rw [hW5]
    have := OwnM.made ((w2.setCell ⟨p, 6, none⟩ (.map (some (w2.heap.size + 1)))).alloc (.cells #[.string a.d.nm, .slice A4 a.d.r.st.length c4, .slice none 0 0] 204))
    simpa using this
  have HMAP := Lib.hid (show OwnM W5.drew (w2.heap.size + 1) 0 (knG fun _ => false) from hmap.congr (fun x _ => rfl))
  have HV5 := Lib.hid (show RdV W5.drew (fun k => k ≠ w2.heap.size + 1) A4 a.d.r.st.length (topV a.d.r) from RdV.frame HV4.out hf5.size (fun k hk hlt' => ⟨by omega, hf5.block k hlt' (fun e => by have : w1.heap.size ≤ k := hk; omega)⟩))
  clear hmap hW5 g0 g1 g2 g3 g4 g5 g6 gf
  have hpW : p < W5.heap.size := by omega
  go_region_with (first | (go_at_call 166; refine (addSaved_any a.d.nm a.d.r.st.length c4 A4 (topV a.d.r) _ (w2.heap.size + 1) 0 (fun _ => false) W5.drew HV5.out (fun k hk => hk) (fun i _ => topV_wf HPL.out i) (fun i _ => by simp [topV, vLeaf, VT.many, sumTo]) (by omega) HMAP.out (by omega)).mono ?_; rintro e w6 ⟨rfl, hf6, n6, hn6, ho6⟩; have HO6 := Lib.hid ho6; have HF6 := Lib.hid (show Fr (fun k => k = w2.heap.size + 1) W5 w6 from ((Fr.refl _ W5).drew).trans' hf6); clear ho6 hf6))
  all_goals
    go_wp2_with fail
    have hz6 := HF6.out.size
    have hfW : Fr (fun k => k = p) w w6 := HF5.out.trans HF6.out (fun k hk => .inr (by omega))
    obtain ⟨hd1, hd2, hd3⟩ := HH.out.dia.lt
    have hnp : p ≠ w2.heap.size + 1 := by omega
    refine bodyPost_end (results_none rfl _ _ _) rfl ⟨rfl, fun k => X k ∨ k = w2.heap.size + 1, fun k => MA k ∨ k = w2.heap.size + 1, fun k hk => .inl hk, fun k hk => ?_, fun k hk => ?_, fun k hk => ?_, ⟨b, rb, w2.heap.size + 1, ib, ?_⟩, ?_⟩
    · rcases hk with hk | hk
      · exact .inl hk
      · exact .inr ⟨by omega, by omega⟩
    · rcases hk with hk | hk
      · exact .inl hk
      · exact .inr (by omega)
    · rcases hk with hk | hk
      · exact .inl (HMX.out k hk)
      · exact .inr hk
    · exact {
        dia := HH.out.dia.fr hfW (fun k hk => hk ▸ hXp) (fun k hk => by rcases hk with hk | hk; exact .inl hk; exact .inr (by omega)) (fun k hk => hk ▸ HH.out.lbp.1) (Nat.le_refl _) (fun e => hp1 e.symm) (fun e => hp2 e.symm) (fun k hk e => (hp6 k hk).1 e)
        a0 := HF6.out.cell k0 hnp
        a1 := HF6.out.cell k1 hnp
        a2 := ⟨A3, c3, HF6.out.cell k2 hnp, m2, m3, RdL.frame HL4.out (by omega) (fun k hk hlt' => ⟨fun hx => by
          have hk' : w.heap.size ≤ k := hk
          rcases hx with hx | hx
          · have := HX.out k hx; omega
          · omega, by
          have hk' : w.heap.size ≤ k := hk
          exact (HF6.out.block k (by omega) (by omega)).trans (hf5.block k hlt' (by omega))⟩)⟩
        a3 := HF6.out.cell k3 hnp
        a4 := HF6.out.cell k4 hnp
        a5 := HF6.out.cell k5 hnp
        a6 := HF6.out.cell q6 hnp
        kn := ⟨n6, HO6.out.congr (fun x _ => by show knG (stKn (topL a.d.r)) x = _; congr 1; funext y; exact (anyV_top a.d.r y).symm), by omega⟩
        fz := fun o => (HF6.out.frozen hpW hnp).trans (kf o)
        mine := ⟨.inl hm1, .inl hm2, .inl hm3, .inr rfl, fun k hk => .inl (hm5 k hk)⟩
        ap := ⟨hp1, hp2, hnp, by omega, by omega, fun k hk => ⟨(hp6 k hk).1, by have := (hd3 k hk).2; omega⟩⟩
        lbp := ⟨HH.out.lbp.1, by omega⟩ }
    · exact hfW.weak (fun k hk => hk ▸ hm1)
end Go.Proofs.YthgbcgphkddmgaaGreat
namespace Go.Proofs.YthgbcgphkddmgaaGreat
open Go.RowKit
set_option linter.unusedVariables false
set_option linter.unusedSimpArgs false
/-- steps whose numbers are numbers of the machine -/
structure ActOk (a : ActS) : Prop where
  box : BoxOk a.box a.pos
  ref : Wf a.ref
  waits : a.waits = true → a.d.dk = 7
  run : RunOk a.d.r
structure RowsOk (l : List Li.LR) : Prop where
  ok : Li.OkL (rowF l) l.length
  wf : ∀ r, r ∈ l → Wf r.ref ∧ (∀ x, x ∈ r.ws → Wf x) ∧ ∀ x, x ∈ r.ls → Wf x
structure NdOk (N : NdS) : Prop where
  id : 1 ≤ N.id ∧ N.id ≤ 8
  fuel : 1 ≤ N.fuel ∧ N.fuel ≤ 10000
  len : N.acts.length ≤ 60
  srt : N.acts.Pairwise fun a b => a.ref < b.ref
  act : ∀ a, a ∈ N.acts → ActOk a
  rows : RowsOk N.rows
  spawned : N.spawned ≤ 999
structure NodeG (w : World) (X : Nat → Prop) (base T p mb hb : Nat) (P : Int → Nat) (MA : Int → Nat → Prop) (ob sb : Option Nat) (N : NdS) : Prop where
  c0 : w.cell? ⟨p, 0, none⟩ = some (.int .i64 N.id)
  c1 : w.cell? ⟨p, 1, none⟩ = some (.int .i64 (N.fuel : Int))
  c2 : ∃ (A : Option Addr) (c : Nat), w.cell? ⟨p, 2, none⟩ = some (.iface 30 (.agg #[])) ∧ ScrsAt w base A c
  c3 : w.cell? ⟨p, 3, none⟩ = some (.map (some mb))
  c4 : ∃ v, w.cell? ⟨p, 4, none⟩ = some v ∧ RowsAt w X v N.rows
  c5 : w.cell? ⟨p, 5, none⟩ = some (.map (some hb))
  c6 : w.cell? ⟨p, 6, none⟩ = some (.int .i64 (N.spawned : Int))
  c7 : w.cell? ⟨p, 7, none⟩ = some (.int .i64 N.last)
  c8 : ∃ v C, w.cell? ⟨p, 8, none⟩ = some v ∧ OutAt w X base v ob C N.out
  c9 : ∃ v, w.cell? ⟨p, 9, none⟩ = some v ∧ w.ownsRow base 75 2 v N.said.length (flatC (saidC N.said) N.said.length) ∧ v.ownBlock = sb
  fz : ∀ o, w.frozen? ⟨p, o, none⟩ = false
  am : OwnM w mb N.acts.length (fun r => if N.has r then some (.pointer (some ⟨P r, 0, none⟩)) else none)
  hm : ∃ n, OwnM w hb n (fun r => (N.homes r).map (.int .i64)) ∧ n ≤ T
  acts : ∀ a, a ∈ N.acts → ∃ b rb kb ib, ActG w X base T (MA a.ref) (P a.ref) b rb kb ib a
  disj : ∀ a b, a ∈ N.acts → b ∈ N.acts → a.ref ≠ b.ref → ∀ k, MA a.ref k → ¬ MA b.ref k
  own : ∀ a, a ∈ N.acts → ∀ k, MA a.ref k → k ≠ p ∧ k ≠ mb ∧ k ≠ hb ∧ ob ≠ some k ∧ sb ≠ some k
  ap : p ≠ mb ∧ p ≠ hb ∧ mb ≠ hb ∧ (∀ k, ob = some k → k ≠ p ∧ k ≠ mb ∧ k ≠ hb ∧ sb ≠ some k) ∧ ∀ k, sb = some k → k ≠ p ∧ k ≠ mb ∧ k ≠ hb
  lim : N.out.length + 201 * N.acts.length ≤ T ∧ N.said.length ≤ T
/-- the blocks that a node may write -/
structure Mine (M : Nat → Prop) (p mb hb : Nat) (MA : Int → Nat → Prop) (ob sb : Option Nat) (N : NdS) : Prop where
  p : M p
  mb : M mb
  hb : M hb
  ob : ∀ k, ob = some k → M k
  sb : ∀ k, sb = some k → M k
  act : ∀ a, a ∈ N.acts → ∀ k, MA a.ref k → M k
section
variable {w w' : World} {S X X' M : Nat → Prop} {base T T' p mb hb : Nat} {P : Int → Nat} {MA : Int → Nat → Prop} {ob sb : Option Nat} {N : NdS}
theorem NodeG.fr (h : NodeG w X base T p mb hb P MA ob sb N) (hm : Mine M p mb hb MA ob sb N) (hf : Fr S w w') (hS : ∀ k, S k → X k) (hX : ∀ k, X' k → X k ∨ w.heap.size ≤ k) (hb' : ∀ k, S k → base ≤ k) (hT : T ≤ T') (hM : ∀ k, M k → ¬ S k) : NodeG w' X' base T' p mb hb P MA ob sb N := by
  have hp := hM p hm.p
  obtain ⟨A2, c2, s1, s2⟩ := h.c2
  obtain ⟨v4, r1, r2⟩ := h.c4
  obtain ⟨v8, C, o1, o2⟩ := h.c8
  obtain ⟨v9, q1, q2, q3⟩ := h.c9
  obtain ⟨n, k1, k2⟩ := h.hm
  exact ⟨hf.cell h.c0 hp, hf.cell h.c1 hp, ⟨A2, c2, hf.cell s1 hp, s2.fr hf hb'⟩, hf.cell h.c3 hp, ⟨v4, hf.cell r1 hp, r2.fr hf hS hX⟩, hf.cell h.c5 hp, hf.cell h.c6 hp, hf.cell h.c7 hp, ⟨v8, C, hf.cell o1 hp, o2.fr hf hS hX (fun k hk => hM k (hm.ob k hk))⟩, ⟨v9, hf.cell q1 hp, hf.row q2 (fun k hk => hM k (hm.sb k (q3.symm.trans hk))), q3⟩,
    fun o => (hf.frozen (World.block_lt_of_cell? w _ h.c0) hp).trans (h.fz o), h.am.fr hf (hM mb hm.mb), ⟨n, k1.fr hf (hM hb hm.hb), by omega⟩, fun a ha => by
      obtain ⟨b, rb, kb, ib, ha'⟩ := h.acts a ha
      exact ⟨b, rb, kb, ib, ha'.fr hf hS hX hb' hT (fun k hk => hM k (hm.act a ha k hk))⟩, h.disj, h.own, h.ap, by have := h.lim; omega⟩
theorem NodeG.lt (h : NodeG w X base T p mb hb P MA ob sb N) : p < w.heap.size ∧ mb < w.heap.size ∧ hb < w.heap.size ∧ (∀ k, ob = some k → k < w.heap.size) ∧ ∀ k, sb = some k → k < w.heap.size := by
  obtain ⟨n, k1, k2⟩ := h.hm
  obtain ⟨v8, C, o1, o2⟩ := h.c8
  obtain ⟨v9, q1, q2, q3⟩ := h.c9
  exact ⟨World.block_lt_of_cell? w _ h.c0, h.am.lt, k1.lt, fun k hk => (o2.row.lt k (o2.blk.trans hk)).2, fun k hk => (q2.lt k (q3.trans hk)).2⟩
theorem NodeG.up (h : NodeG w X base T p mb hb P MA ob sb N) (hT : T ≤ T') : NodeG w X base T' p mb hb P MA ob sb N := by
  obtain ⟨n, k1, k2⟩ := h.hm
  exact { h with
    hm := ⟨n, k1, by omega⟩
    acts := fun a ha => by
      obtain ⟨b, rb, kb, ib, ha'⟩ := h.acts a ha
      obtain ⟨A3, n3, c3, xs, t1, t2, t3, t4, t5⟩ := ha'.dia.c3
      obtain ⟨m, m1, m2⟩ := ha'.kn
      exact ⟨b, rb, kb, ib, { ha' with dia := { ha'.dia with c3 := ⟨A3, n3, c3, xs, t1, t2, by omega, t4, t5⟩ }, kn := ⟨m, m1, by omega⟩ }⟩
    lim := by have := h.lim; omega }
end
/-- a node at block p: X, all that may be written to by anyone; M, what this node may write to -/
def NodeAt (w : World) (X M : Nat → Prop) (base T p : Nat) (P : Int → Nat) (N : NdS) : Prop :=
  NdOk N ∧ (∀ k, X k → k < w.heap.size) ∧ (∀ k, M k → X k ∧ base ≤ k) ∧ ∃ mb hb MA ob sb, NodeG w X base T p mb hb P MA ob sb N ∧ Mine M p mb hb MA ob sb N
/-- from w to w' one node has turned -/
structure Gr (X M : Nat → Prop) (w : World) (X' M' : Nat → Prop) (w' : World) : Prop where
  fr : Fr M w w'
  up : ∀ k, X k → X' k
  xs : ∀ k, X' k → X k ∨ w.heap.size ≤ k
  ms : ∀ k, M' k → M k ∨ w.heap.size ≤ k
theorem Gr.refl (X M : Nat → Prop) (w : World) : Gr X M w X M w := ⟨Fr.refl _ _, fun _ h => h, fun _ h => .inl h, fun _ h => .inl h⟩
theorem Gr.trans {X M X1 M1 X2 M2 : Nat → Prop} {w w1 w2 : World} (h : Gr X M w X1 M1 w1) (k : Gr X1 M1 w1 X2 M2 w2) : Gr X M w X2 M2 w2 := by
  have hz := h.fr.size
  refine ⟨h.fr.trans k.fr h.ms, fun i hi => k.up i (h.up i hi), fun i hi => ?_, fun i hi => ?_⟩
  · rcases k.xs i hi with hh | hh
    · exact h.xs i hh
    · exact .inr (by omega)
  · rcases k.ms i hi with hh | hh
    · exact h.ms i hh
    · exact .inr (by omega)
theorem NodeAt.fr {w w' : World} {S X X' M : Nat → Prop} {base T p : Nat} {P : Int → Nat} {N : NdS} (h : NodeAt w X M base T p P N) (hf : Fr S w w') (hS : ∀ k, S k → X k ∧ base ≤ k) (hx : ∀ k, X k → X' k) (hX : ∀ k, X' k → X k ∨ w.heap.size ≤ k ∧ k < w'.heap.size) (hM : ∀ k, M k → ¬ S k) : NodeAt w' X' M base T p P N := by
  obtain ⟨h1, h2, h3, mb, hb, MA, ob, sb, h4, h5⟩ := h
  refine ⟨h1, fun k hk => ?_, fun k hk => ⟨hx k (h3 k hk).1, (h3 k hk).2⟩, mb, hb, MA, ob, sb, h4.fr h5 hf (fun k hk => (hS k hk).1) (fun k hk => by rcases hX k hk with h | h; exact .inl h; exact .inr h.1) (fun k hk => (hS k hk).2) (Nat.le_refl _) hM, h5⟩
  rcases hX k hk with h | h
  · exact Nat.lt_of_lt_of_le (h2 k h) hf.size
  · exact h.2
/-- what a method of a node makes of it -/
def NdPost (X M : Nat → Prop) (base T p : Nat) (P : Int → Nat) (N' : NdS) (w : World) (v : Value) (e : Ending) (w' : World) : Prop :=
  e = .returned v ∧ ∃ X' M', Gr X M w X' M' w' ∧ NodeAt w' X' M' base T p P N'
end Go.Proofs.YthgbcgphkddmgaaGreat
namespace Go.Proofs.YthgbcgphkddmgaaGreat
open Go.RowKit
set_option linter.unusedVariables false
set_option linter.unusedSimpArgs false
section
variable {w w' : World} {S X X' M : Nat → Prop} {base T T' p mb hb : Nat} {P : Int → Nat} {MA : Int → Nat → Prop} {ob sb : Option Nat} {N : NdS}
/-- what lies apart from a node's own block -/
structure Rest (w : World) (X : Nat → Prop) (base T p mb hb : Nat) (P : Int → Nat) (MA : Int → Nat → Prop) (ob sb : Option Nat) (N : NdS) : Prop where
  am : OwnM w mb N.acts.length (fun r => if N.has r then some (.pointer (some ⟨P r, 0, none⟩)) else none)
  hm : ∃ n, OwnM w hb n (fun r => (N.homes r).map (.int .i64)) ∧ n ≤ T
  acts : ∀ a, a ∈ N.acts → ∃ b rb kb ib, ActG w X base T (MA a.ref) (P a.ref) b rb kb ib a
theorem NodeG.rest (h : NodeG w X base T p mb hb P MA ob sb N) (hf : Fr S w w') (hS : ∀ k, S k → X k ∧ base ≤ k) (hX : ∀ k, X' k → X k ∨ w.heap.size ≤ k) (hT : T ≤ T') (hM : ∀ k, S k → k = p ∨ ob = some k ∨ sb = some k) : Rest w' X' base T' p mb hb P MA ob sb N := by
  obtain ⟨a1, a2, a3, a4, a5⟩ := h.ap
  obtain ⟨l1, l2, l3, l4, l5⟩ := h.lt
  obtain ⟨n, k1, k2⟩ := h.hm
  have hm : ¬ S mb := fun hs => by
    rcases hM mb hs with e | e | e
    · exact a1 e.symm
    · exact (a4 _ e).2.1 rfl
    · exact (a5 _ e).2.1 rfl
  have hh : ¬ S hb := fun hs => by
    rcases hM hb hs with e | e | e
    · exact a2 e.symm
    · exact (a4 _ e).2.2.1 rfl
    · exact (a5 _ e).2.2 rfl
  refine ⟨h.am.fr hf hm, ⟨n, k1.fr hf hh, by omega⟩, fun a ha => ?_⟩
  obtain ⟨b, rb, kb, ib, ha'⟩ := h.acts a ha
  refine ⟨b, rb, kb, ib, ha'.fr hf (fun k hk => (hS k hk).1) hX (fun k hk => (hS k hk).2) hT (fun k hk hs => ?_)⟩
  obtain ⟨o1, o2, o3, o4, o5⟩ := h.own a ha k hk
  rcases hM k hs with e | e | e
  · exact o1 e
  · exact o4 e
  · exact o5 e
/-- a store into the node's own block leaves the others -/
theorem set_other {b i o : Nat} {u v : Value} (h : w.cell? ⟨b, o, none⟩ = some v) (hne : o ≠ i) : (w.setCell ⟨b, i, none⟩ u).cell? ⟨b, o, none⟩ = some v := by
  rw [← h]
  simp [go_sem]
  first | done | (intro e; exact absurd e.symm (by omega)) | omega
theorem set_this {b i : Nat} {u v : Value} (h : w.cell? ⟨b, i, none⟩ = some v) : (w.setCell ⟨b, i, none⟩ u).cell? ⟨b, i, none⟩ = some u := by
  simp [go_sem, h]
theorem set_fz {b i : Nat} {u : Value} (h : ∀ o, w.frozen? ⟨b, o, none⟩ = false) : ∀ o, (w.setCell ⟨b, i, none⟩ u).frozen? ⟨b, o, none⟩ = false := fun o => by simp [go_sem, h]
theorem NodeG.set4 (h : NodeG w X base T p mb hb P MA ob sb N) (hp : X p ∧ base ≤ p) {v : Value} {rows : List Li.LR} (hr : RowsAt w X v rows) : NodeG (w.setCell ⟨p, 4, none⟩ v) X base T p mb hb P MA ob sb { N with rows := rows } := by
  have hf : Fr (fun k => k = p) w (w.setCell ⟨p, 4, none⟩ v) := Fr.setAt (Fr.refl _ w) v
  have hS : ∀ k, k = p → X k ∧ base ≤ k := fun k hk => hk ▸ hp
  have R := h.rest (X' := X) hf hS (fun k hk => .inl hk) (Nat.le_refl _) (fun k hk => .inl hk)
  obtain ⟨A2, c2, s1, s2⟩ := h.c2
  obtain ⟨v4, r1, r2⟩ := h.c4
  obtain ⟨v8, C, o1, o2⟩ := h.c8
  obtain ⟨v9, q1, q2, q3⟩ := h.c9
  exact ⟨set_other h.c0 (by decide), set_other h.c1 (by decide), ⟨A2, c2, set_other s1 (by decide), s2.fr hf (fun k hk => (hS k hk).2)⟩, set_other h.c3 (by decide), ⟨v, set_this r1, hr.fr hf (fun k hk => (hS k hk).1) (fun k hk => .inl hk)⟩, set_other h.c5 (by decide), set_other h.c6 (by decide), set_other h.c7 (by decide),
    ⟨v8, C, set_other o1 (by decide), o2.fr hf (fun k hk => (hS k hk).1) (fun k hk => .inl hk) (fun k hk hs => (h.ap.2.2.2.1 k hk).1 hs)⟩, ⟨v9, set_other q1 (by decide), hf.row q2 (fun k hk hs => (h.ap.2.2.2.2 k (q3.symm.trans hk)).1 hs), q3⟩, set_fz h.fz, R.am, R.hm, R.acts, h.disj, h.own, h.ap, h.lim⟩
theorem NodeG.set6 (h : NodeG w X base T p mb hb P MA ob sb N) (hp : X p ∧ base ≤ p) {k' : Nat} {i : Int} (hi : i = (k' : Int)) : NodeG (w.setCell ⟨p, 6, none⟩ (.int .i64 i)) X base T p mb hb P MA ob sb { N with spawned := k' } := by
  subst hi
  have hf : Fr (fun k => k = p) w (w.setCell ⟨p, 6, none⟩ (.int .i64 (k' : Int))) := Fr.setAt (Fr.refl _ w) _
  have hS : ∀ k, k = p → X k ∧ base ≤ k := fun k hk => hk ▸ hp
  have R := h.rest (X' := X) hf hS (fun k hk => .inl hk) (Nat.le_refl _) (fun k hk => .inl hk)
  obtain ⟨A2, c2, s1, s2⟩ := h.c2
  obtain ⟨v4, r1, r2⟩ := h.c4
  obtain ⟨v8, C, o1, o2⟩ := h.c8
  obtain ⟨v9, q1, q2, q3⟩ := h.c9
  exact ⟨set_other h.c0 (by decide), set_other h.c1 (by decide), ⟨A2, c2, set_other s1 (by decide), s2.fr hf (fun k hk => (hS k hk).2)⟩, set_other h.c3 (by decide), ⟨v4, set_other r1 (by decide), r2.fr hf (fun k hk => (hS k hk).1) (fun k hk => .inl hk)⟩, set_other h.c5 (by decide), set_this h.c6, set_other h.c7 (by decide),
    ⟨v8, C, set_other o1 (by decide), o2.fr hf (fun k hk => (hS k hk).1) (fun k hk => .inl hk) (fun k hk hs => (h.ap.2.2.2.1 k hk).1 hs)⟩, ⟨v9, set_other q1 (by decide), hf.row q2 (fun k hk hs => (h.ap.2.2.2.2 k (q3.symm.trans hk)).1 hs), q3⟩, set_fz h.fz, R.am, R.hm, R.acts, h.disj, h.own, h.ap, h.lim⟩
theorem NodeG.set7 (h : NodeG w X base T p mb hb P MA ob sb N) (hp : X p ∧ base ≤ p) (l : Int) : NodeG (w.setCell ⟨p, 7, none⟩ (.int .i64 l)) X base T p mb hb P MA ob sb { N with last := l } := by
  have hf : Fr (fun k => k = p) w (w.setCell ⟨p, 7, none⟩ (.int .i64 l)) := Fr.setAt (Fr.refl _ w) _
  have hS : ∀ k, k = p → X k ∧ base ≤ k := fun k hk => hk ▸ hp
  have R := h.rest (X' := X) hf hS (fun k hk => .inl hk) (Nat.le_refl _) (fun k hk => .inl hk)
  obtain ⟨A2, c2, s1, s2⟩ := h.c2
  obtain ⟨v4, r1, r2⟩ := h.c4
  obtain ⟨v8, C, o1, o2⟩ := h.c8
  obtain ⟨v9, q1, q2, q3⟩ := h.c9
  exact ⟨set_other h.c0 (by decide), set_other h.c1 (by decide), ⟨A2, c2, set_other s1 (by decide), s2.fr hf (fun k hk => (hS k hk).2)⟩, set_other h.c3 (by decide), ⟨v4, set_other r1 (by decide), r2.fr hf (fun k hk => (hS k hk).1) (fun k hk => .inl hk)⟩, set_other h.c5 (by decide), set_other h.c6 (by decide), set_this h.c7,
    ⟨v8, C, set_other o1 (by decide), o2.fr hf (fun k hk => (hS k hk).1) (fun k hk => .inl hk) (fun k hk hs => (h.ap.2.2.2.1 k hk).1 hs)⟩, ⟨v9, set_other q1 (by decide), hf.row q2 (fun k hk hs => (h.ap.2.2.2.2 k (q3.symm.trans hk)).1 hs), q3⟩, set_fz h.fz, R.am, R.hm, R.acts, h.disj, h.own, h.ap, h.lim⟩
/-- the row of what was said has grown (block g), and the node has it -/
theorem NodeG.set9 (h : NodeG w X base T p mb hb P MA ob sb N) (hm : Mine M p mb hb MA ob sb N) (hMX : ∀ k, M k → X k ∧ base ≤ k) (hXl : ∀ k, X k → k < w.heap.size) {v : Value} {g : Nat} {x : Int × Int} (hf : Fr (fun k => sb = some k) w w') (hg : v.ownBlock = some g) (hgs : sb = some g ∨ w.heap.size ≤ g)
    (hr : w'.ownsRow base 75 2 v (N.said ++ [x]).length (flatC (saidC (N.said ++ [x])) (N.said ++ [x]).length)) (hT : N.said.length + 1 ≤ T') (hTT : T ≤ T') : NodeG (w'.setCell ⟨p, 9, none⟩ v) (fun k => X k ∨ k = g) base T' p mb hb P MA ob (some g) { N with said := N.said ++ [x] } := by
  have hf1 : Fr (fun k => sb = some k ∨ k = p) w (w'.setCell ⟨p, 9, none⟩ v) := (hf.weak (fun _ h => .inl h)).set (.inl (.inr rfl)) v
  have hS : ∀ k, (sb = some k ∨ k = p) → X k ∧ base ≤ k := fun k hk => by
    rcases hk with hk | hk
    · exact hMX k (hm.sb k hk)
    · exact hk ▸ hMX p hm.p
  have hX' : ∀ k, (X k ∨ k = g) → X k ∨ w.heap.size ≤ k := fun k hk => by
    rcases hk with hk | hk
    · exact .inl hk
    · subst hk
      rcases hgs with e | e
      · exact .inl (hMX k (hm.sb k e)).1
      · exact .inr e
  have R := h.rest (X' := fun k => X k ∨ k = g) hf1 hS hX' hTT (fun k hk => by rcases hk with h | h; exact .inr (.inr h); exact .inl h)
  have hp : ¬ sb = some p := fun e => (h.ap.2.2.2.2 p e).1 rfl
  have hgp : g ≠ p := fun e => by
    subst e
    rcases hgs with e | e
    · exact hp e
    · have := h.lt.1; omega
  obtain ⟨A2, c2, s1, s2⟩ := h.c2
  obtain ⟨v4, r1, r2⟩ := h.c4
  obtain ⟨v8, C, o1, o2⟩ := h.c8
  obtain ⟨v9, q1, q2, q3⟩ := h.c9
  obtain ⟨a1, a2, a3, a4, a5⟩ := h.ap
  have hl := h.lt
  refine ⟨set_other (hf.cell h.c0 hp) (by decide), set_other (hf.cell h.c1 hp) (by decide), ⟨A2, c2, set_other (hf.cell s1 hp) (by decide), s2.fr hf1 (fun k hk => (hS k hk).2)⟩, set_other (hf.cell h.c3 hp) (by decide), ⟨v4, set_other (hf.cell r1 hp) (by decide), r2.fr hf1 (fun k hk => (hS k hk).1) hX'⟩, set_other (hf.cell h.c5 hp) (by decide), set_other (hf.cell h.c6 hp) (by decide), set_other (hf.cell h.c7 hp) (by decide),
    ⟨v8, C, set_other (hf.cell o1 hp) (by decide), o2.fr hf1 (fun k hk => (hS k hk).1) hX' (fun k hk hs => ?_)⟩, ⟨v, set_this (hf.cell q1 hp), Fr.row (S := fun k => k = p) (Fr.setAt (Fr.refl _ w') v) hr (fun k hk hs => ?_), hg⟩, set_fz (fun o => (hf.frozen hl.1 hp).trans (h.fz o)), R.am, R.hm, R.acts, h.disj, fun a ha k hk => ?_, ⟨a1, a2, a3, fun k hk => ?_, fun k hk => ?_⟩, ?_⟩
  · obtain ⟨b1, b2, b3, b4⟩ := a4 k hk
    rcases hs with hs | hs
    · exact b4 hs
    · exact b1 hs
  · rw [hg] at hk
    injection hk with hk
    exact hgp (hk.trans hs)
  · obtain ⟨o1, o2, o3, o4, o5⟩ := h.own a ha k hk
    refine ⟨o1, o2, o3, o4, fun e => ?_⟩
    injection e with e
    subst e
    rcases hgs with e | e
    · exact o5 e
    · have := hXl g (hMX g (hm.act a ha g hk)).1
      omega
  · obtain ⟨b1, b2, b3, b4⟩ := a4 k hk
    refine ⟨b1, b2, b3, fun e => ?_⟩
    injection e with e
    subst e
    rcases hgs with e | e
    · exact b4 e
    · have := hl.2.2.2.1 g hk; omega
  · injection hk with hk
    subst hk
    rcases hgs with e | e
    · exact a5 g e
    · exact ⟨hgp, by omega, by omega⟩
  · have := h.lim
    exact ⟨by show N.out.length + 201 * N.acts.length ≤ T'; omega, by simpa using hT⟩
/-- the row of what goes out has grown (block g), and the node has it -/
theorem NodeG.set8 (h : NodeG w X base T p mb hb P MA ob sb N) (hm : Mine M p mb hb MA ob sb N) (hMX : ∀ k, M k → X k ∧ base ≤ k) (hXl : ∀ k, X k → k < w.heap.size) {v : Value} {g : Nat} {l' : List LT} {C : Nat → List Value} (hf : Fr (fun k => ob = some k) w w') (hgs : ob = some g ∨ w.heap.size ≤ g)
    (hr : OutAt w' (fun k => X k ∨ k = g) base v (some g) C l') (hT : l'.length + 201 * N.acts.length ≤ T') (hTT : T ≤ T') : NodeG (w'.setCell ⟨p, 8, none⟩ v) (fun k => X k ∨ k = g) base T' p mb hb P MA (some g) sb { N with out := l' } := by
  have hf1 : Fr (fun k => ob = some k ∨ k = p) w (w'.setCell ⟨p, 8, none⟩ v) := (hf.weak (fun _ h => .inl h)).set (.inl (.inr rfl)) v
  have hS : ∀ k, (ob = some k ∨ k = p) → X k ∧ base ≤ k := fun k hk => by
    rcases hk with hk | hk
    · exact hMX k (hm.ob k hk)
    · exact hk ▸ hMX p hm.p
  have hX' : ∀ k, (X k ∨ k = g) → X k ∨ w.heap.size ≤ k := fun k hk => by
    rcases hk with hk | hk
    · exact .inl hk
    · subst hk
      rcases hgs with e | e
      · exact .inl (hMX k (hm.ob k e)).1
      · exact .inr e
  have R := h.rest (X' := fun k => X k ∨ k = g) hf1 hS hX' hTT (fun k hk => by rcases hk with h | h; exact .inr (.inl h); exact .inl h)
  have hp : ¬ ob = some p := fun e => (h.ap.2.2.2.1 p e).1 rfl
  have hgp : g ≠ p := fun e => by
    subst e
    rcases hgs with e | e
    · exact hp e
    · have := h.lt.1; omega
  obtain ⟨A2, c2, s1, s2⟩ := h.c2
  obtain ⟨v4, r1, r2⟩ := h.c4
  obtain ⟨v8, C8, o1, o2⟩ := h.c8
  obtain ⟨v9, q1, q2, q3⟩ := h.c9
  obtain ⟨a1, a2, a3, a4, a5⟩ := h.ap
  have hl := h.lt
  have hf2 : Fr (fun k => k = p) w' (w'.setCell ⟨p, 8, none⟩ v) := Fr.setAt (Fr.refl _ w') v
  refine ⟨set_other (hf.cell h.c0 hp) (by decide), set_other (hf.cell h.c1 hp) (by decide), ⟨A2, c2, set_other (hf.cell s1 hp) (by decide), s2.fr hf1 (fun k hk => (hS k hk).2)⟩, set_other (hf.cell h.c3 hp) (by decide), ⟨v4, set_other (hf.cell r1 hp) (by decide), r2.fr hf1 (fun k hk => (hS k hk).1) hX'⟩, set_other (hf.cell h.c5 hp) (by decide), set_other (hf.cell h.c6 hp) (by decide), set_other (hf.cell h.c7 hp) (by decide),
    ⟨v, C, set_this (hf.cell o1 hp), hr.fr hf2 (fun k hk => hk ▸ .inl (hMX p hm.p).1) (fun k hk => .inl hk) (fun k hk hs => ?_)⟩, ⟨v9, set_other (hf.cell q1 hp) (by decide), hf1.row q2 (fun k hk hs => ?_), q3⟩, set_fz (fun o => (hf.frozen hl.1 hp).trans (h.fz o)), R.am, R.hm, R.acts, h.disj, fun a ha k hk => ?_, ⟨a1, a2, a3, fun k hk => ?_, fun k hk => ?_⟩, ?_⟩
  · injection hk with hk
    exact hgp (hk.trans hs)
  · have e := q3.symm.trans hk
    rcases hs with hs | hs
    · exact (a4 k hs).2.2.2 e
    · exact (a5 k e).1 hs
  · obtain ⟨o1, o2, o3, o4, o5⟩ := h.own a ha k hk
    refine ⟨o1, o2, o3, fun e => ?_, o5⟩
    injection e with e
    subst e
    rcases hgs with e | e
    · exact o4 e
    · have := hXl g (hMX g (hm.act a ha g hk)).1
      omega
  · injection hk with hk
    subst hk
    rcases hgs with e | e
    · exact a4 g e
    · refine ⟨hgp, by omega, by omega, fun e2 => ?_⟩
      have := hl.2.2.2.2 g e2
      omega
  · exact a5 k hk
  · have := h.lim
    exact ⟨hT, by show N.said.length ≤ T'; omega⟩
end
end Go.Proofs.YthgbcgphkddmgaaGreat
