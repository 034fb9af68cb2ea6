/- arms.Bind, arms.First, pick.First: what a pattern binds, and the first one that matches. -/
import Derived.Test.YtjalgnpbdcefdaaPickBind
import Derived.Deep.DeepCutAuto
namespace Go.Proofs.Ytjalgnpbdcefdaa
open Go.RowKit
set_option linter.unusedVariables false
/-- the slice A of length n holds the values (or patterns) l, all in blocks of S -/
def RdV (w : World) (S : Nat → Prop) (A : Option Addr) (n : Nat) (l : Nat → VT) : Prop :=
  0 < n → ∃ b off, A = some ⟨b, off, none⟩ ∧ b < w.heap.size ∧ S b ∧ ∃ C : Nat → List Value, ∀ i, i < n → (l i).isV w S (C i) ∧ ∀ j u, (C i)[j]? = some u → w.cell? ⟨b, off + i * 4 + j, none⟩ = some u
theorem RdV.frame {w w' : World} {S S' : Nat → Prop} {A : Option Addr} {n : Nat} {l : Nat → VT} (h : RdV w S A n l) (hsz : w.heap.size ≤ w'.heap.size) (hS : ∀ b, S b → b < w.heap.size → S' b ∧ w'.heap[b]? = w.heap[b]?) : RdV w' S' A n l := fun h0 => by
  obtain ⟨b, off, hA, hb, hSb, C, hC⟩ := h h0
  obtain ⟨h1, h2⟩ := hS b hSb hb
  exact ⟨b, off, hA, by omega, h1, C, fun i hi => ⟨isV_frame hsz hS (hC i hi).1, fun j u hu => (World.cell?_of_block (a := ⟨b, _, none⟩) h2).trans ((hC i hi).2 j u hu)⟩⟩
theorem RdV.below {w w' : World} {S : Nat → Prop} {A : Option Addr} {n : Nat} {l : Nat → VT} (h : RdV w S A n l) (hb : Below w.heap.size w w') : RdV w' S A n l := h.frame hb.size (fun b hs hl => ⟨hs, hb.block b hl⟩)
theorem values_any (n c : Nat) (A : Option Addr) (arg : Nat → VT) (S : Nat → Prop) (w : World) (hn : n ≤ 4194304) (hV : RdV w S A n arg) (hm : ∀ i, i < n → (arg i).many ≤ 4194304) : Calls Try.prog 51 #[.slice A n c] w (EachPost n arg w) := by
  have HE := Lib.hid (each_any n c A arg S w hn hV hm (fun i _ => copy_any _))
  clear hV hm
  go_enter Try.func51, Try.ntmps51
  go_wp2_with fail
  refine HE.out.mono ?_
  rintro e w1 ⟨v, C, rfl, hr⟩
  go_wp2_with fail
  go_ret
  exact ⟨v, C, rfl, hr⟩
/-- what arms.Bind answers -/
def TopPost (p v : VT) (w : World) (e : Ending) (w' : World) : Prop :=
  ∃ A n c, e = .returned (.tuple #[.slice A n c, .bool (hitB p v)]) ∧ n = (if hitB p v then p.names else 0) ∧ n ≤ c ∧ c ≤ 9223372036854775807 ∧ (A = Option.none → n = 0) ∧ Below w.heap.size w w'
set_option maxRecDepth 100000 in
set_option maxHeartbeats 4000000 in
theorem armsBind_any (p v : VT) (pcs vcs : List Value) (S1 S2 : Nat → Prop) (w : World) (hp : p.isV w S1 pcs) (hv : v.isV w S2 vcs) (hpm : p.many ≤ 4194304) (hvm : v.many ≤ 4194304) : Calls Try.prog 35 #[.agg pcs.toArray, .agg vcs.toArray] w (TopPost p v w) := by
  have HP := Lib.hid (show ∀ o o', p.isV ((w.alloc o).alloc o') (fun b => b < w.heap.size) pcs from fun o o' => isV_frame (w := w) (S := S1) (by simp; omega) (fun b _ hl => ⟨hl, (((Below.refl w.heap.size w).alloc (Nat.le_refl _) _).alloc (by simp) _).block b hl⟩) hp)
  have HV := Lib.hid (show ∀ o o', v.isV ((w.alloc o).alloc o') (fun b => b < w.heap.size) vcs from fun o o' => isV_frame (w := w) (S := S2) (by simp; omega) (fun b _ hl => ⟨hl, (((Below.refl w.heap.size w).alloc (Nat.le_refl _) _).alloc (by simp) _).block b hl⟩) hv)
  obtain ⟨k1, m1, s1, A1, n1, c1, rfl⟩ := isV_cells hp
  obtain ⟨k2, m2, s2, A2, n2, c2, rfl⟩ := isV_cells hv
  have hpn : p.names ≤ 4194304 := Nat.le_trans (names_many p) hpm
  have HBM := Lib.hid (fun o' h => bind_mem 4194304 p v [] o' hvm (fun t ht => by simp at ht) h)
  have HBL := Lib.hid (fun o' h => bind_len p v [] o' h)
  have HH := Lib.hid (show hitB p v = (p.bind v []).isSome from rfl)
  have HC := Lib.hid (show ∀ o o', _ from fun o o' => (bind_any p v [] (.slice none 0 0) (fun _ => List.replicate 4 undef) w.heap.size _ _ ((w.alloc o).alloc o') (BRow.nil _ _) (HP.out o o') (HV.out o o') (by simp; omega) hpm hvm (by simp; omega)).mono (fun e w' h => bindPost_one h))
  clear hp hv hpm hvm
  have HBB := Lib.hid (show ∀ o o', Below w.heap.size w ((w.alloc o).alloc o') from fun o o' => ((Below.refl w.heap.size w).alloc (Nat.le_refl _) _).alloc (by simp) _)
  go_enter Try.func35, Try.ntmps35
  go_wp2_with fail
  refine (HC.out _ _).mono ?_
  rintro e w1 ⟨x, b, rfl, hg, hr⟩
  have HB1 := Lib.hid (show Below w.heap.size w w1 from (HBB.out _ _).grown hg (by simp; omega) (by simp [Value.ownBlock]))
  clear hg
  rcases hr with ⟨rfl, hn⟩ | ⟨rfl, o', C', hs, hR, hat⟩
  · have HN := Lib.hid hn
    clear hn
    go_wp2_with fail
    go_ret2
    have e1 : hitB p v = false := by rw [HH.out, HN.out]; rfl
    exact ⟨none, 0, 0, by rw [e1]; rfl, by rw [e1]; rfl, Nat.le_refl _, by omega, fun _ => rfl, HB1.out⟩
  · have HS := Lib.hid hs
    have HR := Lib.hid hR
    obtain ⟨A, c, rfl, hnc, hcm, hA⟩ := own_any hR.row
    have hlen : o'.length = p.names := by have := HBL.out o' hs; simpa using this
    have e1 : hitB p v = true := by rw [HH.out, hs]; rfl
    have HE1 := Lib.hid e1
    have HLEN := Lib.hid hlen
    have hol : o'.length ≤ 4194304 := by omega
    have HRD := Lib.hid (show RdV w1 (fun _ => True) A o'.length (fun i => o'.getD i .none) from fun h0 => by
      obtain ⟨g, cap, hv2, hb, hlt, _⟩ := own_form hR.row h0
      injection hv2 with e1 _ e3
      subst e1 e3
      refine ⟨g, 0, rfl, hlt, trivial, C', fun i hi => ⟨?_, fun j u hu => ?_⟩⟩
      · have hl : o'[i]? = some (o'.getD i .none) := by simp [hi]
        exact isV_mono (hR.each i _ hl) (fun b _ hb => trivial)
      · have hj : j < 4 := by
          rcases Nat.lt_or_ge j 4 with hh | hh
          · exact hh
          · rw [List.getElem?_eq_none (by rw [hR.len]; exact hh)] at hu; cases hu
        rw [Nat.zero_add, own_cellC hR.row hR.len hi hj]
        exact hu)
    have HMM := Lib.hid (show ∀ i, i < o'.length → (o'.getD i .none).many ≤ 4194304 from fun i hi => HBM.out o' HS.out _ (by simp [List.getD, hi]))
    clear hs hR hat hlen e1 hA
    go_wp2_with fail
    refine (values_any o'.length c A _ _ w1 hol HRD.out HMM.out).mono ?_
    rintro e w2 ⟨v2, C2, rfl, hown, _, _, hb2⟩
    obtain ⟨A', c', rfl, hnc', hcm', hA'⟩ := own_any hown
    have HB2 := Lib.hid (HB1.out.trans (hb2.mono HB1.out.size))
    clear hown hb2
    go_wp2_with fail
    go_ret2
    exact ⟨A', _, c', by rw [HE1.out]; rfl, by rw [HE1.out, HLEN.out]; rfl, hnc', hcm', hA', HB2.out⟩
set_option maxRecDepth 100000 in
set_option maxHeartbeats 1000000 in
theorem pickFits_any (p v : VT) (pcs vcs : List Value) (S1 S2 : Nat → Prop) (w : World) (hp : p.isV w S1 pcs) (hv : v.isV w S2 vcs) (hpm : p.many ≤ 4194304) (hvm : v.many ≤ 4194304) : Calls Try.prog 10 #[.agg pcs.toArray, .agg vcs.toArray] w (TopPost p v w) := by
  have HBB := Lib.hid (show ∀ o o', Below w.heap.size w ((w.alloc o).alloc o') from fun o o' => ((Below.refl w.heap.size w).alloc (Nat.le_refl _) _).alloc (by simp) _)
  have HC := Lib.hid (fun o o' => armsBind_any p v pcs vcs S1 S2 ((w.alloc o).alloc o') (isV_below hp (HBB.out o o')) (isV_below hv (HBB.out o o')) hpm hvm)
  obtain ⟨k1, m1, s1, A1, n1, c1, rfl⟩ := isV_cells hp
  obtain ⟨k2, m2, s2, A2, n2, c2, rfl⟩ := isV_cells hv
  clear hp hv
  go_enter Try.func10, Try.ntmps10
  go_wp2_with fail
  refine (HC.out _ _).mono ?_
  rintro e w1 ⟨A, n, c, rfl, h1, h2, h3, h4, hb⟩
  have HH := Lib.hid (And.intro h1 h4)
  have HB := Lib.hid ((HBB.out _ _).trans (hb.mono (by simp; omega)))
  clear h1 h4 hb
  go_wp2_with fail
  go_ret2
  exact ⟨A, n, c, rfl, HH.out.1, h2, h3, HH.out.2, HB.out⟩
set_option maxRecDepth 100000 in
set_option maxHeartbeats 4000000 in
theorem armsFirst_any (n c : Nat) (A : Option Addr) (l : Nat → VT) (v : VT) (vcs : List Value) (S1 S2 : Nat → Prop) (w : World) (hn : n ≤ 4194304) (hl : RdV w S1 A n l) (hv : v.isV w S2 vcs) (hlm : ∀ i, i < n → (l i).many ≤ 4194304) (hvm : v.many ≤ 4194304) :
    Calls Try.prog 48 #[.slice A n c, .agg vcs.toArray] w fun e w' => (∃ A' n' c', e = .returned (.tuple #[.int .i64 (firstOf l v n), .slice A' n' c'])) ∧ Below w.heap.size w w' := by
  have HL := Lib.hid hl
  have HV := Lib.hid hv
  have HLM := Lib.hid hlm
  have HVM := Lib.hid hvm
  obtain ⟨k2, m2, s2, A2, n2, c2, rfl⟩ := isV_cells hv
  clear hl hv hlm hvm
  obtain ⟨F, hF⟩ : ∃ F, firstOf l v n = F := ⟨_, rfl⟩
  have HF := Lib.hid hF
  rw [hF]
  clear hF
  go_enter Try.func48, Try.ntmps48
  go_wp2_with fail
  go_loopw [6, 7, 8, 9, 12] (fun _ _ _ _ i wr => ∃ q : Nat, q ≤ n ∧ i = .int .i64 (q : Int) ∧ (∀ j, j < q → hitB (l j) v = false) ∧ Below w.heap.size w wr ∧ w.heap.size < wr.heap.size ∧ wr.cell? ⟨w.heap.size, 0, none⟩ = some (.int .i64 k2) ∧ wr.cell? ⟨w.heap.size, 1, none⟩ = some (.int .i64 m2) ∧ wr.cell? ⟨w.heap.size, 2, none⟩ = some (.string s2) ∧ wr.cell? ⟨w.heap.size, 3, none⟩ = some (.slice A2 n2 c2)) (fun _ _ _ _ i _ => n - (intOf i).toNat)
  case atStart => exact ⟨0, Nat.zero_le _, rfl, fun j hj => by omega, (Below.refl _ _).alloc (Nat.le_refl _) _, by simp, by simp, by simp, by simp, by simp⟩
  case round =>
    obtain ⟨q, hq, rfl, hlow, hB, hz, b0, b1, b2, b3⟩ := hrel
    have HLO := Lib.hid hlow
    have HB := Lib.hid hB
    clear hlow hB
    by_cases hlt : q < n
    rotate_left
    · obtain rfl : q = n := by omega
      go_wp2_with fail
      go_ret2
      refine ⟨⟨none, 0, 0, ?_⟩, HB.out⟩
      rw [← HF.out, firstOf_none HLO.out]
      rfl
    obtain ⟨pb, poff, rfl, hpb, hpS, PC, hPC⟩ := HL.out (by omega)
    obtain ⟨hp1, hpcell⟩ := hPC q hlt
    obtain ⟨k1, m1, s1, A1, n1, c1, hPq⟩ := isV_cells hp1
    rw [hPq] at hpcell hp1
    have x0 : wr.cell? ⟨pb, poff + q * 4, none⟩ = some (.int .i64 k1) := (HB.out.cell (p := ⟨pb, _, none⟩) hpb).trans (hpcell 0 _ rfl)
    have x1 : wr.cell? ⟨pb, poff + q * 4 + 1, none⟩ = some (.int .i64 m1) := (HB.out.cell (p := ⟨pb, _, none⟩) hpb).trans (hpcell 1 _ rfl)
    have x2 : wr.cell? ⟨pb, poff + q * 4 + 2, none⟩ = some (.string s1) := (HB.out.cell (p := ⟨pb, _, none⟩) hpb).trans (hpcell 2 _ rfl)
    have x3 : wr.cell? ⟨pb, poff + q * 4 + 3, none⟩ = some (.slice A1 n1 c1) := (HB.out.cell (p := ⟨pb, _, none⟩) hpb).trans (hpcell 3 _ rfl)
    have l1 : pb < wr.heap.size := by have := HB.out.size; omega
    have HP1 := Lib.hid hp1
    have HC := Lib.hid (fun W (hb : Below w.heap.size w W) => armsBind_any (l q) v _ _ S1 S2 W (isV_below HP1.out hb) (isV_below HV.out hb) (HLM.out q hlt) HVM.out)
    clear hPC hp1 hpcell hPq
    go_wp2_with fail
    refine (HC.out _ (HB.out.alloc (by omega) _)).mono ?_
    rintro e w1 ⟨A', n', c', rfl, -, -, -, -, hb1⟩
    have HB1 := Lib.hid ((HB.out.alloc (by omega) _).trans (hb1.mono (by simp; omega)))
    have hz1 : w.heap.size < w1.heap.size := by have := hb1.size; simp at this; omega
    have y : ∀ o, w1.cell? ⟨w.heap.size, o, none⟩ = wr.cell? ⟨w.heap.size, o, none⟩ := fun o => (hb1.cell (p := ⟨_, _, none⟩) (by simp; omega)).trans (World.cell?_of_block (a := ⟨w.heap.size, o, none⟩) (Below.heap_alloc wr _ _ (by show w.heap.size < wr.heap.size; omega)))
    have y0 := (y 0).trans b0
    have y1 := (y 1).trans b1
    have y2 := (y 2).trans b2
    have y3 := (y 3).trans b3
    clear hb1 y x0 x1 x2 x3 b0 b1 b2 b3
    generalize hhb : hitB (l q) v = hb at *
    have HHB := Lib.hid hhb
    clear hhb
    cases hb with
    | true =>
      go_wp2_with fail
      go_ret2
      refine ⟨⟨A', n', c', ?_⟩, HB1.out⟩
      rw [← HF.out, firstOf_at HLO.out HHB.out hlt]
      rfl
    | false =>
      go_wp2_with fail
      go_roundw
      case rel =>
        refine ⟨q + 1, by omega, by go_num, fun j hj => ?_, HB1.out, hz1, y0, y1, y2, y3⟩
        by_cases e : j = q
        · rw [e]; exact HHB.out
        · exact HLO.out j (by omega)
      case measure => simp [intOf]; omega
set_option maxRecDepth 100000 in
set_option maxHeartbeats 1000000 in
theorem pickFirst_any (n c : Nat) (A : Option Addr) (l : Nat → VT) (v : VT) (vcs : List Value) (S1 S2 : Nat → Prop) (w : World) (hn : n ≤ 4194304) (hl : RdV w S1 A n l) (hv : v.isV w S2 vcs) (hlm : ∀ i, i < n → (l i).many ≤ 4194304) (hvm : v.many ≤ 4194304) :
    Calls Try.prog 31 #[.slice A n c, .agg vcs.toArray] w fun e w' => e = .returned (.int .i64 (firstOf l v n)) ∧ Below w.heap.size w w' := by
  have HBB := Lib.hid (show ∀ o, Below w.heap.size w (w.alloc o) from fun o => (Below.refl w.heap.size w).alloc (Nat.le_refl _) _)
  have HC := Lib.hid (fun o => armsFirst_any n c A l v vcs S1 S2 (w.alloc o) hn (hl.below (HBB.out o)) (isV_below hv (HBB.out o)) hlm hvm)
  obtain ⟨k2, m2, s2, A2, n2, c2, rfl⟩ := isV_cells hv
  obtain ⟨F, hF⟩ : ∃ F, firstOf l v n = F := ⟨_, rfl⟩
  rw [hF] at HC ⊢
  clear hl hv hlm hvm hF
  go_enter Try.func31, Try.ntmps31
  go_wp2_with fail
  refine (HC.out _).mono ?_
  rintro e w1 ⟨⟨A', n', c', rfl⟩, hb⟩
  have HB := Lib.hid ((HBB.out _).trans (hb.mono (by simp)))
  clear hb
  go_wp2_with fail
  go_ret
  exact ⟨rfl, HB.out⟩
end Go.Proofs.Ytjalgnpbdcefdaa
