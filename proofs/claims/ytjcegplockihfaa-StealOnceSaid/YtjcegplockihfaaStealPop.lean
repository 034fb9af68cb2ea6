/- The contract of steal.Pop. -/
import Derived.Test.YtjcegplockihfaaStealVic
import Derived.Deep.RegionWith
namespace Go.Proofs.Ytjcegplockihfaa
open Go.RowKit
set_option linter.unusedVariables false
theorem OwnLs.put2 {w w2 : World} {base g cap n i : Nat} {vs : Nat → Value} {Q : Nat → List Int} {v' : Value} {l' : List Int} (h : OwnLs w base (.slice (some ⟨g, 0, none⟩) n cap) vs n Q) (hi : i < n) (hg : w.grownBy w2 none)
    (hO : OwnI w2 base v' l') (hat : ∀ k, v'.ownBlock = some k → k ≠ g ∧ ∀ j, j < n → j ≠ i → (vs j).ownBlock ≠ some k) :
    OwnLs (w2.setCell ⟨g, i, none⟩ v') base (.slice (some ⟨g, 0, none⟩) n cap) (upd vs i v') n (upd Q i l') := by
  have hneg : ∀ j, j < n → ∀ k, (vs j).ownBlock = some k → k ≠ g := fun j hj k hk e => h.outer j hj k hk (by rw [e]; rfl)
  have hrow2 : w2.ownsRow base 52 1 (.slice (some ⟨g, 0, none⟩) n cap) n (flatC (vsC vs) n) := own_grown h.row hg (fun k hk e => by cases e)
  have hset := own_setC hrow2 (vsC_len vs) (k := i) (j := 0) (by omega) v' (G' := vsC (upd vs i v')) (fun k _ => by
    unfold vsC upd
    by_cases e : k = i
    · simp [e]
    · simp [e])
  simp only [Nat.mul_one, Nat.add_zero] at hset
  refine ⟨hset.1, fun j hj => ?_, fun a b ha hb hab k hk => ?_, fun j hj k hk => ?_⟩
  · unfold upd
    by_cases e : j = i
    · subst e
      simp only [if_true]
      exact hO.grown hset.2 (fun k hk e => (hat k hk).1 (by injection e with e; exact e.symm))
    · simp only [e, if_false]
      exact ((h.each j hj).grown hg (fun k hk e2 => by cases e2)).grown hset.2 (fun k hk e2 => hneg j hj k hk (by injection e2 with e2; exact e2.symm))
  · unfold upd at hk ⊢
    by_cases e : a = i
    · subst e
      simp only [if_true] at hk
      rw [if_neg (by omega)]
      exact (hat k hk).2 b hb (by omega)
    · simp only [e, if_false] at hk
      by_cases e3 : b = i
      · subst e3
        simp only [if_true]
        intro e2
        exact (hat k e2).2 a ha e hk
      · simp only [e3, if_false]
        exact h.apart a b ha hb hab k hk
  · intro e2
    have hk' : g = k := Option.some.inj e2
    unfold upd at hk
    by_cases e : j = i
    · simp only [e, if_true] at hk
      exact (hat k hk).1 hk'.symm
    · simp only [e, if_false] at hk
      exact hneg j hj k hk hk'.symm
/-- the first m numbers of a line of the call's own -/
theorem OwnI.takeRd {w : World} {base c : Nat} {A : Option Addr} {l : List Int} {m : Nat} (h : OwnI w base (.slice A l.length c) l) (hm : m ≤ l.length) : Rd w 1 (tmC (lst (l.take m))) A m := by
  have h1 := (h.rd.take hm)
  refine h1.congr fun k hk => ?_
  unfold tmC lst
  simp [hk]
theorem last_of {l : List Int} (h : 0 < l.length) : lst l (l.length - 1) = l.getLast (List.ne_nil_of_length_pos h) := by
  rw [List.getLast_eq_getElem]
  simp [lst, show l.length - 1 < l.length by omega]
/-- the state behind a steal -/
def PopMid (w : World) (base g cap n cp h : Nat) (Q2 : Nat → List Int) (T : List Int) (B0 : Nat) (w0 : World) : Prop :=
  ∃ (At : Option Addr) (ct : Nat) (vs : Nat → Value), OwnLs w base (.slice (some ⟨g, 0, none⟩) n cap) vs n Q2 ∧ w.cell? ⟨g, cp, none⟩ = some (.slice At h ct) ∧ h ≤ ct ∧ ct ≤ 9223372036854775807 ∧ w.ownsRow base 3 1 (.slice At h ct) h (encI T) ∧ g < w.heap.size ∧ B0 ≤ w.heap.size ∧ Below w0.heap.size w0 w
theorem popMid_of {w0 w4 wl : World} {base g cap n cp vv h m : Nat} {vs : Nat → Value} {Q : Nat → List Int} {T D : List Int} {At Ad : Option Addr} {ct cd : Nat} (hO : OwnLs w4 base (.slice (some ⟨g, 0, none⟩) n cap) vs n Q) (hcp : cp < n) (hvv : vv < n) (hne : vv ≠ cp) (hb : Below w4.heap.size w4 wl)
    (hT : wl.ownsRow w4.heap.size 3 1 (.slice At h ct) h (encI T)) (hTl : T.length = h) (hD : wl.ownsRow w4.heap.size 3 1 (.slice Ad m cd) m (encI D)) (hDl : D.length = m) (hap : ∀ k, (Value.slice At h ct).ownBlock = some k → (Value.slice Ad m cd).ownBlock ≠ some k) (hbase : base ≤ w4.heap.size) (hB : Below w0.heap.size w0 w4) (hgb : w0.heap.size ≤ g) :
    PopMid ((wl.setCell ⟨g, cp, none⟩ (.slice At h ct)).setCell ⟨g, vv, none⟩ (.slice Ad m cd)) base g cap n cp h (upd (upd Q cp T) vv D) T w4.heap.size w0 := by
  have hg4 := (own_lt hO.row).2
  have hlt : ∀ j, j < n → ∀ k, (vs j).ownBlock = some k → k < w4.heap.size := fun j hj k hk => ((hO.each j hj).blk k hk).2
  have hTI : OwnI wl w4.heap.size (.slice At h ct) T := by unfold OwnI; rw [hTl]; exact hT
  have hDI : OwnI wl w4.heap.size (.slice Ad m cd) D := by unfold OwnI; rw [hDl]; exact hD
  have o1 := OwnLs.put2 hO hcp (grown_below hb) (hTI.mono hbase) (fun k hk => ⟨by have := (hTI.blk k hk).1; omega, fun j hj _ e => by have := (hTI.blk k hk).1; have := hlt j hj k e; omega⟩)
  have hz := hb.size
  have g1 : wl.grownBy (wl.setCell ⟨g, cp, none⟩ (.slice At h ct)) (some g) := grown_set (grown_self _ _) _
  have hDI1 : OwnI (wl.setCell ⟨g, cp, none⟩ (.slice At h ct)) base (.slice Ad m cd) D := (hDI.mono hbase).grown g1 (fun k hk e => by have := (hDI.blk k hk).1; injection e with e; omega)
  have o2 := OwnLs.put2 o1 hvv (grown_self _ _) hDI1 (fun k hk => ⟨by have := (hDI.blk k hk).1; omega, fun j hj hjn e => by
    unfold upd at e
    by_cases ej : j = cp
    · simp only [ej, if_true] at e
      exact hap k e hk
    · simp only [ej, if_false] at e
      have := (hDI.blk k hk).1; have := hlt j hj k e; omega⟩)
  have hcell : wl.cell? ⟨g, cp, none⟩ = w4.cell? ⟨g, cp, none⟩ := hb.cell (p := ⟨g, cp, none⟩) hg4
  have hc4 := own_cellC hO.row (vsC_len _) hcp (j := 0) (by omega)
  simp only [Nat.mul_one, Nat.add_zero] at hc4
  obtain ⟨A', c', hv', h1, h2, _⟩ := own_any hT
  injection hv' with e1 _ e3
  subst e1 e3
  have hgl6 : g < ((wl.setCell ⟨g, cp, none⟩ (.slice At h ct)).setCell ⟨g, vv, none⟩ (.slice Ad m cd)).heap.size := by
    have : g < wl.heap.size := by omega
    simpa using this
  refine ⟨At, ct, _, o2, ?_, h1, h2, ?_, hgl6, by simpa using hz, below_set (below_set (hB.trans (hb.mono hB.size)) hgb) hgb⟩
  · exact (World.cell?_setCell_other _ _ _ _ (by simp <;> omega)).trans (World.cell?_setCell_same _ _ _ (u := vs cp) (by rw [hcell, hc4]; simp [vsC]))
  · have g2 : (wl.setCell ⟨g, cp, none⟩ (.slice At h ct)).grownBy ((wl.setCell ⟨g, cp, none⟩ (.slice At h ct)).setCell ⟨g, vv, none⟩ (.slice Ad m cd)) (some g) := grown_set (grown_self _ _) _
    refine own_grown (own_grown (own_mono hT hbase) g1 (fun k hk e => ?_)) g2 (fun k hk e => ?_)
    · have := (hT.lt k hk).1; injection e with e; omega
    · have := (hT.lt k hk).1; injection e with e; omega
theorem flatC_lst' {l : List Int} {n : Nat} (h : l.length = n) : flatC (tmC (lst l)) n = encI l := by subst h; exact flatC_lst l
theorem PopMid.drew {w : World} {base g cap n cp h : Nat} {Q2 : Nat → List Int} {T : List Int} {B0 : Nat} {w0 : World} (hp : PopMid w base g cap n cp h Q2 T B0 w0) : PopMid w.drew base g cap n cp h Q2 T B0 w0 := by
  obtain ⟨At, ct, vs, h1, h2, h3, h4, h5, h6, h7, h8⟩ := hp
  exact ⟨At, ct, vs, h1.below (Below.drew (Below.refl _ _)), h2, h3, h4, h5, h6, h7, h8.drew⟩
def LenIs (l : List Int) (n : Nat) : Prop := l.length = n
theorem take_last (l : List Int) : l.take (l.length - 1) = l.dropLast := by rw [List.dropLast_eq_take]
def PopErr (w : World) (e : Ending) (w' : World) : Prop := ∃ x : Int, x ≠ 0 ∧ e = .returned (.tuple #[.slice none 0 0, .int .i64 0, .int .i64 x]) ∧ Below w.heap.size w w'
def PopPost (Q2 : Nat → List Int) (n : Nat) (cp : Nat) (w : World) (e : Ending) (w' : World) : Prop :=
  ∃ A c vs, e = .returned (.tuple #[.slice A n c, .int .i64 (lst (Q2 cp) ((Q2 cp).length - 1)), .int .i64 0]) ∧ OwnLs w' w.heap.size (.slice A n c) vs n (upd Q2 cp (Q2 cp).dropLast) ∧ Below w.heap.size w w'
set_option maxHeartbeats 800000 in
theorem pop_bad (A : Option Addr) (n c : Nat) (Q : Nat → List Int) (S : Nat → Prop) (cpu : Int) (w : World) (hn : n ≤ c) (hc : c ≤ 9223372036854775807) (hR : RdLs w S A n Q) (hwf : WfQ Q n) (ok : ¬ (OkLs Q n ∧ 0 ≤ cpu ∧ cpu < n)) :
    Calls Try.prog 38 #[.slice A n c, .int .i64 cpu] w (PopErr w) := by
  have H := Lib.hid (checkCpu_any A n c Q S cpu w hn hc hR hwf)
  have HK := Lib.hid ok
  clear hR hwf ok
  go_enter Try.func38, Try.ntmps38
  go_wp2_with fail
  refine H.out.mono ?_
  rintro e w1 ⟨x, rfl, hx, hb⟩
  have hx' : x ≠ 0 := fun h => HK.out (hx.1 h)
  have hx0 : (x != 0) = true := by simpa using hx'
  clear hx
  go_wp2_with fail
  go_ret3
  exact ⟨x, hx', rfl, hb⟩
set_option maxRecDepth 100000 in
set_option maxHeartbeats 2000000 in
theorem pop_own (A : Option Addr) (n c cp : Nat) (Q : Nat → List Int) (S : Nat → Prop) (w : World) (hn : n ≤ c) (hc : c ≤ 9223372036854775807) (hR : RdLs w S A n Q) (hwf : WfQ Q n) (ok : OkLs Q n) (hcp : cp < n) (hpos : 0 < (Q cp).length) :
    Calls Try.prog 38 #[.slice A n c, .int .i64 cp] w (PopPost Q n cp w) := by
  have HPOS := Lib.hid hpos
  have e0 : (((Q cp).length : Int) == 0) = false := by simp; intro h; rw [h] at hpos; simp at hpos
  clear hpos
  have H := Lib.hid (checkCpu_any A n c Q S cp w hn hc hR hwf)
  have HR := Lib.hid hR
  have HWF := Lib.hid hwf
  have HK := Lib.hid (show OkLs Q n ∧ (0 : Int) ≤ cp ∧ (cp : Int) < n from ⟨ok, by omega, by omega⟩)
  have h8 := ok.2.1
  have h100 := ok.2.2.1
  clear hR hwf ok
  go_enter Try.func38, Try.ntmps38
  go_wp2_with fail
  refine H.out.mono ?_
  rintro e w1 ⟨x, rfl, hx, hb⟩
  obtain rfl : x = 0 := hx.2 HK.out
  have HB1 := Lib.hid hb
  clear hx hb
  go_wp2_with fail
  refine (copyS_any A n c Q S _ hn hc (by omega) (HR.out.below HB1.out) (fun j hj => (HWF.out j hj).1)).mono ?_
  rintro e w3 ⟨v, vs, rfl, hO, hb3⟩
  obtain ⟨g, cap, rfl, hbase, hglt, hnc, hcm⟩ := own_form hO.row (by omega)
  obtain ⟨qA, qc, hvi, hq1, hq2, _⟩ := own_any (hO.each cp hcp)
  have c0 : w3.cell? ⟨g, cp, none⟩ = some (.slice qA (Q cp).length qc) := by
    have := own_cellC hO.row (vsC_len _) hcp (j := 0) (by omega)
    simp only [Nat.mul_one, Nat.add_zero] at this
    rw [this]; simp [vsC, hvi]
  have cf : ∀ o, w3.frozen? ⟨g, o, none⟩ = false := fun o => hO.row.frozenAt o
  have HOI := Lib.hid (show OwnI w3 w1.heap.size (.slice qA (Q cp).length qc) (Q cp) by rw [← hvi]; exact hO.each cp hcp)
  have HV := Lib.hid hvi
  have HO := Lib.hid hO
  have HB3 := Lib.hid (HB1.out.trans (hb3.mono HB1.out.size))
  have hz3 := hb3.size
  have hz1 := HB1.out.size
  have j0 : (0 : Int) ≤ (cp : Int) := by omega
  have j1 : (cp : Int) < (n : Int) := by omega
  clear hO hb3 hvi
  have HGLT := Lib.hid hglt
  have HLB := Lib.hid (show (Q cp).length ≤ 17592186044416 from (HWF.out cp hcp).1)
  have HN := Lib.hid (show LenIs (Q cp) (Q cp).length from rfl)
  have hlen : 0 < (Q cp).length := HPOS.out
  obtain ⟨bq, hqA, hbq1, hbq2, hcl⟩ : ∃ bq, qA = some ⟨bq, 0, none⟩ ∧ w1.heap.size ≤ bq ∧ bq < w3.heap.size ∧ w3.cell? ⟨bq, (Q cp).length - 1, none⟩ = some (.int .i64 (lst (Q cp) ((Q cp).length - 1))) := by
    have hoi : OwnI w3 w1.heap.size (.slice qA (Q cp).length qc) (Q cp) := HOI.out
    have hnn : (Q cp).length = (Q cp).length := HN.out
    rw [← hnn] at hoi hlen ⊢
    obtain ⟨gq, capq, hvq, hb1, hb2, _⟩ := own_form hoi hlen
    injection hvq with e1 _ e3
    subst e1 e3
    refine ⟨gq, rfl, hb1, hb2, ?_⟩
    obtain ⟨b, off, hA, _, hc⟩ := hoi.rd hlen
    injection hA with hA
    injection hA with e1 e2
    subst e1 e2
    simpa using hc ((Q cp).length - 1) (by omega) 0 _ rfl
  subst hqA
  have k0 : (0 : Int) ≤ (((Q cp).length : Int) - 1) := by omega
  have k1 : ((Q cp).length : Int) - 1 < ((Q cp).length : Int) := by omega
  have k2 : (((Q cp).length : Int) - 1).toNat = (Q cp).length - 1 := by omega
  have k3 : (1 : Int) ≤ ((Q cp).length : Int) := by omega
  have k4 : ((Q cp).length : Int) - 1 ≤ (qc : Int) := by omega
  have RTK : Hid (Rd w3 1 (tmC (lst ((Q cp).take ((Q cp).length - 1)))) (some ⟨bq, 0, none⟩) ((Q cp).length - 1)) := Lib.hid (by
    have hnn : (Q cp).length = (Q cp).length := HN.out
    have hoi : OwnI w3 w1.heap.size (.slice (some ⟨bq, 0, none⟩) (Q cp).length qc) (Q cp) := by rw [hnn]; exact HOI.out
    exact hoi.takeRd (by omega))
  go_wp2_with fail
  refine (cloneInt (some ⟨bq, 0, none⟩) ((Q cp).length - 1) qc (tmC (lst ((Q cp).take ((Q cp).length - 1)))) _ RTK.out (tmC_len _) (tmC_one _) (fun h => by cases h) (by have := HLB.out; omega)).mono ?_
  rintro e w5 ⟨v5, rfl, hown5, hb5⟩
  have hO5 : OwnI w5 w3.heap.size v5 (Q cp).dropLast := by
    have hnn : (Q cp).length = (Q cp).length := HN.out
    have e1 : (Q cp).dropLast.length = (Q cp).length - 1 := by rw [List.length_dropLast, hnn]
    unfold OwnI
    rw [e1, ← flatC_lst, e1, ← take_last, hnn]
    exact hown5
  obtain ⟨A5, c5, rfl, hn5, hc5, _⟩ := own_any hown5
  have d0 := (hb5.cell (p := ⟨g, cp, none⟩) HGLT.out).trans c0
  have df : ∀ o, w5.frozen? ⟨g, o, none⟩ = false := fun o => (hb5.frozen (p := ⟨g, o, none⟩) HGLT.out).trans (cf o)
  have HO5 := Lib.hid hO5
  have HB5 := Lib.hid hb5
  have hz5 := hb5.size
  clear hown5 hO5 hb5 c0 cf hcl k0 k1 k2 k3 k4
  go_wp2_with fail
  go_ret3
  refine ⟨some ⟨g, 0, none⟩, cap, _, rfl, (OwnLs.put2 HO.out hcp (grown_below HB5.out) (HO5.out.mono (by omega)) (fun k hk => ?_)).mono (by omega), ?_⟩
  · have h5 := (HO5.out.blk k hk).1
    have hg5 := HGLT.out
    refine ⟨by omega, fun j hj hne e => ?_⟩
    have := ((HO.out.each j hj).blk k e).2
    omega
  · exact below_set (HB3.out.trans (HB5.out.mono (by omega))) (by omega)
set_option maxRecDepth 100000 in
set_option maxHeartbeats 2000000 in
theorem pop_none (A : Option Addr) (n c cp : Nat) (Q : Nat → List Int) (S : Nat → Prop) (w : World) (hn : n ≤ c) (hc : c ≤ 9223372036854775807) (hR : RdLs w S A n Q) (hwf : WfQ Q n) (ok : OkLs Q n) (hcp : cp < n) (hpos : (Q cp).length = 0) (hv : vic Q n cp (n - 1) = -1) :
    Calls Try.prog 38 #[.slice A n c, .int .i64 cp] w (PopErr w) := by
  have e0 : (((Q cp).length : Int) == 0) = true := by simp; exact List.eq_nil_of_length_eq_zero hpos
  have HVI := Lib.hid hv
  have HOKK := Lib.hid ok
  have hle : (Q cp).length ≤ 0 := by omega
  clear hpos hv
  have H := Lib.hid (checkCpu_any A n c Q S cp w hn hc hR hwf)
  have HR := Lib.hid hR
  have HWF := Lib.hid hwf
  have HK := Lib.hid (show OkLs Q n ∧ (0 : Int) ≤ cp ∧ (cp : Int) < n from ⟨ok, by omega, by omega⟩)
  have h8 := ok.2.1
  have h100 := ok.2.2.1
  clear hR hwf ok
  go_enter Try.func38, Try.ntmps38
  go_wp2_with fail
  refine H.out.mono ?_
  rintro e w1 ⟨x, rfl, hx, hb⟩
  obtain rfl : x = 0 := hx.2 HK.out
  have HB1 := Lib.hid hb
  clear hx hb
  go_wp2_with fail
  refine (copyS_any A n c Q S _ hn hc (by omega) (HR.out.below HB1.out) (fun j hj => (HWF.out j hj).1)).mono ?_
  rintro e w3 ⟨v, vs, rfl, hO, hb3⟩
  obtain ⟨g, cap, rfl, hbase, hglt, hnc, hcm⟩ := own_form hO.row (by omega)
  obtain ⟨qA, qc, hvi, hq1, hq2, _⟩ := own_any (hO.each cp hcp)
  have c0 : w3.cell? ⟨g, cp, none⟩ = some (.slice qA (Q cp).length qc) := by
    have := own_cellC hO.row (vsC_len _) hcp (j := 0) (by omega)
    simp only [Nat.mul_one, Nat.add_zero] at this
    rw [this]; simp [vsC, hvi]
  have cf : ∀ o, w3.frozen? ⟨g, o, none⟩ = false := fun o => hO.row.frozenAt o
  have HOI := Lib.hid (show OwnI w3 w1.heap.size (.slice qA (Q cp).length qc) (Q cp) by rw [← hvi]; exact hO.each cp hcp)
  have HV := Lib.hid hvi
  have HO := Lib.hid hO
  have HB3 := Lib.hid (HB1.out.trans (hb3.mono HB1.out.size))
  have hz3 := hb3.size
  have hz1 := HB1.out.size
  have j0 : (0 : Int) ≤ (cp : Int) := by omega
  have j1 : (cp : Int) < (n : Int) := by omega
  clear hO hb3 hvi
  go_wp2_with fail
  refine (victim_ok A n c cp Q S _ hn hc (HR.out.below HB3.out) HWF.out HOKK.out hcp).mono ?_
  rintro e w4 ⟨rfl, hb4⟩
  rw [HVI.out]
  have HB4 := Lib.hid (HB3.out.trans (hb4.mono HB3.out.size))
  clear hb4 c0 cf
  go_wp2_with fail
  go_ret3
  exact ⟨4, by omega, rfl, HB4.out⟩
set_option maxRecDepth 100000 in
set_option maxHeartbeats 4000000 in
theorem pop_steal (A : Option Addr) (n c cp : Nat) (Q : Nat → List Int) (S : Nat → Prop) (w : World) (hn : n ≤ c) (hc : c ≤ 9223372036854775807) (hR : RdLs w S A n Q) (hwf : WfQ Q n) (ok : OkLs Q n) (hcp : cp < n) (hpos : (Q cp).length = 0) (vv : Nat) (hv : vic Q n cp (n - 1) = vv) (hvn : vv < n) (hvc : vv ≠ cp) (hvp : 0 < (Q vv).length) :
    Calls Try.prog 38 #[.slice A n c, .int .i64 cp] w (PopPost (upd (upd Q cp ((Q vv).take (((Q vv).length + 1) / 2))) vv ((Q vv).drop (((Q vv).length + 1) / 2))) n cp w) := by
  have e0 : (((Q cp).length : Int) == 0) = true := by simp; exact List.eq_nil_of_length_eq_zero hpos
  have HVI := Lib.hid hv
  have HOKK := Lib.hid ok
  have hle : (Q cp).length ≤ 0 := by omega
  clear hpos hv
  have H := Lib.hid (checkCpu_any A n c Q S cp w hn hc hR hwf)
  have HR := Lib.hid hR
  have HWF := Lib.hid hwf
  have HK := Lib.hid (show OkLs Q n ∧ (0 : Int) ≤ cp ∧ (cp : Int) < n from ⟨ok, by omega, by omega⟩)
  have h8 := ok.2.1
  have h100 := ok.2.2.1
  clear hR hwf ok
  go_enter Try.func38, Try.ntmps38
  go_wp2_with fail
  refine H.out.mono ?_
  rintro e w1 ⟨x, rfl, hx, hb⟩
  obtain rfl : x = 0 := hx.2 HK.out
  have HB1 := Lib.hid hb
  clear hx hb
  go_wp2_with fail
  refine (copyS_any A n c Q S _ hn hc (by omega) (HR.out.below HB1.out) (fun j hj => (HWF.out j hj).1)).mono ?_
  rintro e w3 ⟨v, vs, rfl, hO, hb3⟩
  obtain ⟨g, cap, rfl, hbase, hglt, hnc, hcm⟩ := own_form hO.row (by omega)
  obtain ⟨qA, qc, hvi, hq1, hq2, _⟩ := own_any (hO.each cp hcp)
  have c0 : w3.cell? ⟨g, cp, none⟩ = some (.slice qA (Q cp).length qc) := by
    have := own_cellC hO.row (vsC_len _) hcp (j := 0) (by omega)
    simp only [Nat.mul_one, Nat.add_zero] at this
    rw [this]; simp [vsC, hvi]
  have cf : ∀ o, w3.frozen? ⟨g, o, none⟩ = false := fun o => hO.row.frozenAt o
  have HOI := Lib.hid (show OwnI w3 w1.heap.size (.slice qA (Q cp).length qc) (Q cp) by rw [← hvi]; exact hO.each cp hcp)
  have HV := Lib.hid hvi
  have HO := Lib.hid hO
  have HB3 := Lib.hid (HB1.out.trans (hb3.mono HB1.out.size))
  have hz3 := hb3.size
  have hz1 := HB1.out.size
  have j0 : (0 : Int) ≤ (cp : Int) := by omega
  have j1 : (cp : Int) < (n : Int) := by omega
  clear hO hb3 hvi
  go_wp2_with fail
  refine (victim_ok A n c cp Q S _ hn hc (HR.out.below HB3.out) HWF.out HOKK.out hcp).mono ?_
  rintro e w4 ⟨rfl, hb4⟩
  rw [HVI.out]
  have hO4 := HO.out.below hb4
  have HO4 := Lib.hid hO4
  have HB4 := Lib.hid (HB3.out.trans (hb4.mono HB3.out.size))
  have hg4 : g < w4.heap.size := Nat.lt_of_lt_of_le hglt hb4.size
  have hz4 := hb4.size
  clear hb4 c0 cf
  obtain ⟨pA, pc, hvv, hp1, hp2, hp3⟩ := own_any (hO4.each vv hvn)
  obtain ⟨pg, pcap, hpv, hpb, hplt, _⟩ := own_form (hO4.each vv hvn) hvp
  obtain ⟨rfl, rfl⟩ : pA = some ⟨pg, 0, none⟩ ∧ pc = pcap := by rw [hvv] at hpv; injection hpv with a b c; exact ⟨a, c⟩
  have c0 : w4.cell? ⟨g, vv, none⟩ = some (.slice (some ⟨pg, 0, none⟩) (Q vv).length pc) := by
    have := own_cellC hO4.row (vsC_len _) hvn (j := 0) (by omega)
    simp only [Nat.mul_one, Nat.add_zero] at this
    rw [this]; simp [vsC, hvv]
  have c1 : w4.cell? ⟨g, cp, none⟩ = some (vs cp) := by
    have := own_cellC hO4.row (vsC_len _) hcp (j := 0) (by omega)
    simp only [Nat.mul_one, Nat.add_zero] at this
    rw [this]; simp [vsC]
  have cf : ∀ o, w4.frozen? ⟨g, o, none⟩ = false := fun o => hO4.row.frozenAt o
  have HOV := Lib.hid (show OwnI w4 w1.heap.size (.slice (some ⟨pg, 0, none⟩) (Q vv).length pc) (Q vv) by rw [← hvv]; exact hO4.each vv hvn)
  have hvl : (Q vv).length ≤ 17592186044416 := (HWF.out vv hvn).1
  have m0 : (0 : Int) ≤ (vv : Int) := by omega
  have m1 : (vv : Int) < (n : Int) := by omega
  clear hO4 hvv hpv hp3
  rw [HV.out] at c1
  have hdiv : ((((Q vv).length : Int) + 1) / 2) = ((((Q vv).length + 1) / 2 : Nat) : Int) := by omega
  have hh1 : 1 ≤ ((Q vv).length + 1) / 2 := by omega
  have hh2 : ((Q vv).length + 1) / 2 ≤ (Q vv).length := by omega
  generalize hhd : ((Q vv).length + 1) / 2 = h at *
  have HHD := Lib.hid hhd
  clear hhd
  have hi0 : (0 : Int) ≤ (h : Int) := by omega
  have hi1 : (h : Int) ≤ (pc : Int) := by omega
  have hi2 : (h : Int) ≤ ((Q vv).length : Int) := by omega
  have RT := Lib.hid (HOV.out.takeRd hh2)
  have HTL := Lib.hid (show ((Q vv).take h).length = h by rw [List.length_take]; omega)
  have HDL := Lib.hid (show ((Q vv).drop h).length = (Q vv).length - h by rw [List.length_drop])
  have HOT := Lib.hid HO4.out
  go_wp2_with fail
  have HDIV := Lib.hid hdiv
  rw [hdiv]
  clear hdiv
  go_cut [] (fun wx => PopMid wx w1.heap.size g cap n cp h (upd (upd Q cp ((Q vv).take h)) vv ((Q vv).drop h)) ((Q vv).take h) w4.heap.size w)
  case first =>
   by_cases hpc : pc = h
   · have hl0 : (Q vv).length - h = 0 := by omega
     have RD := Lib.hid (show Rd w4 1 (tmC (lst ((Q vv).drop h))) (some ⟨pg, 0, none⟩) 0 from fun h0 => by omega)
     have HDL := Lib.hid (show ((Q vv).drop h).length = 0 by rw [List.length_drop]; exact hl0)
     have hpc' : h = pc := hpc.symm
     clear hpc hl0
     subst hpc'
     go_region_with (first | (go_at_call_of 32 (Value.slice (some ⟨pg, 0, none⟩) h h); refine (cloneInt (some ⟨pg, 0, none⟩) h h (tmC (lst ((Q vv).take h))) _ (by exact RT.out) (tmC_len _) (tmC_one _) (fun h => by cases h) (by omega)).mono ?_; rintro e wt ⟨vt, rfl, hownt, hbt0⟩; have hbt := below_drew' hbt0; obtain ⟨At, ct, rfl, hnt, hct, _⟩ := own_any hownt; have HOt := Lib.hid hownt; have HBt := Lib.hid hbt; have Gwt := Lib.hid hg4; have wtc0 := (hbt.cell (p := ⟨g, vv, none⟩) Gwt.out).trans c0; have wtc1 := (hbt.cell (p := ⟨g, cp, none⟩) Gwt.out).trans c1; have wtf : ∀ o, wt.frozen? ⟨g, o, none⟩ = false := (fun o => (hbt.frozen (p := ⟨g, o, none⟩) Gwt.out).trans (cf o)); have RDt := Lib.hid (RD.out.below hbt); clear hownt hbt hbt0) | (go_at_call_of 32 (Value.slice (some ⟨pg, 0, none⟩) (0) (0)); refine (cloneInt (some ⟨pg, 0, none⟩) (0) (0) (tmC (lst ((Q vv).drop h))) _ (by exact RDt.out) (tmC_len _) (tmC_one _) (fun h => by cases h) (by omega)).mono ?_; rintro e wl ⟨vd, rfl, hownd, hbd⟩; obtain ⟨Ad, cd, rfl, hnd, hcd, _⟩ := own_any hownd; have HOd := Lib.hid hownd; have HBl := Lib.hid (HBt.out.trans (hbd.mono HBt.out.size)); have HOTl := Lib.hid (own_keep HOt.out hbd); have HODl := Lib.hid hownd; have APl := Lib.hid (show ∀ k, (Value.slice At h ct).ownBlock = some k → (Value.slice Ad (0) cd).ownBlock ≠ some k from fun k hk e => by have := (HOt.out.lt k hk).2; have := (HOd.out.lt k e).1; omega); have Gwl := Lib.hid (Nat.lt_of_lt_of_le Gwt.out HBt.out.size); have wlc0 := (hbd.cell (p := ⟨g, vv, none⟩) Gwl.out).trans wtc0; have wlc1 := (hbd.cell (p := ⟨g, cp, none⟩) Gwl.out).trans wtc1; have wlf : ∀ o, wl.frozen? ⟨g, o, none⟩ = false := (fun o => (hbd.frozen (p := ⟨g, o, none⟩) Gwl.out).trans (wtf o)); clear hownd hbd wtc0 wtc1 wtf))
     all_goals
       go_wp2_with fail
       go_meet
       refine (popMid_of HO4.out hcp hvn hvc HBl.out (by rw [← flatC_lst' HTL.out]; exact HOTl.out) HTL.out (by rw [← flatC_lst' HDL.out]; exact own_mono HODl.out HBt.out.size) HDL.out APl.out (by omega) HB4.out (by omega))
   · have RD := Lib.hid (show Rd w4 1 (tmC (lst ((Q vv).drop h))) (some ⟨pg, h, none⟩) ((Q vv).length - h) from fun h0 => by
       obtain ⟨b, off, hA, hb, hc⟩ := HOV.out.rd hvp
       injection hA with hA
       injection hA with e1 e2
       subst e1 e2
       refine ⟨pg, h, rfl, hb, fun k hk j u hu => ?_⟩
       match j, hu with
       | 0, hu =>
         have := hc (h + k) (by omega) 0 _ rfl
         simp [tmC, lst] at hu
         subst hu
         simpa [lst, Nat.mul_one] using this)
     have hpi : ¬ ((pc : Int) = (h : Int)) := by omega
     go_region_with (first | (go_at_call_of 32 (Value.slice (some ⟨pg, 0, none⟩) h pc); refine (cloneInt (some ⟨pg, 0, none⟩) h pc (tmC (lst ((Q vv).take h))) _ (by exact RT.out) (tmC_len _) (tmC_one _) (fun h => by cases h) (by omega)).mono ?_; rintro e wt ⟨vt, rfl, hownt, hbt0⟩; have hbt := below_drew' hbt0; obtain ⟨At, ct, rfl, hnt, hct, _⟩ := own_any hownt; have HOt := Lib.hid hownt; have HBt := Lib.hid hbt; have Gwt := Lib.hid hg4; have wtc0 := (hbt.cell (p := ⟨g, vv, none⟩) Gwt.out).trans c0; have wtc1 := (hbt.cell (p := ⟨g, cp, none⟩) Gwt.out).trans c1; have wtf : ∀ o, wt.frozen? ⟨g, o, none⟩ = false := (fun o => (hbt.frozen (p := ⟨g, o, none⟩) Gwt.out).trans (cf o)); have RDt := Lib.hid (RD.out.below hbt); clear hownt hbt hbt0) | (go_at_call_of 32 (Value.slice (some ⟨pg, h, none⟩) ((Q vv).length - h) (pc - h)); refine (cloneInt (some ⟨pg, h, none⟩) ((Q vv).length - h) (pc - h) (tmC (lst ((Q vv).drop h))) _ (by exact RDt.out) (tmC_len _) (tmC_one _) (fun h => by cases h) (by omega)).mono ?_; rintro e wl ⟨vd, rfl, hownd, hbd⟩; obtain ⟨Ad, cd, rfl, hnd, hcd, _⟩ := own_any hownd; have HOd := Lib.hid hownd; have HBl := Lib.hid (HBt.out.trans (hbd.mono HBt.out.size)); have HOTl := Lib.hid (own_keep HOt.out hbd); have HODl := Lib.hid hownd; have APl := Lib.hid (show ∀ k, (Value.slice At h ct).ownBlock = some k → (Value.slice Ad ((Q vv).length - h) cd).ownBlock ≠ some k from fun k hk e => by have := (HOt.out.lt k hk).2; have := (HOd.out.lt k e).1; omega); have Gwl := Lib.hid (Nat.lt_of_lt_of_le Gwt.out HBt.out.size); have wlc0 := (hbd.cell (p := ⟨g, vv, none⟩) Gwl.out).trans wtc0; have wlc1 := (hbd.cell (p := ⟨g, cp, none⟩) Gwl.out).trans wtc1; have wlf : ∀ o, wl.frozen? ⟨g, o, none⟩ = false := (fun o => (hbd.frozen (p := ⟨g, o, none⟩) Gwl.out).trans (wtf o)); clear hownd hbd wtc0 wtc1 wtf))
     all_goals
       go_wp2_with fail
       go_meet
       refine (popMid_of HO4.out hcp hvn hvc HBl.out (by rw [← flatC_lst' HTL.out]; exact HOTl.out) HTL.out (by rw [← flatC_lst' HDL.out]; exact own_mono HODl.out HBt.out.size) HDL.out APl.out (by omega) HB4.out (by omega))
  case rest =>
  obtain ⟨At, ct, vs2, hO6, c0', hct1, hct2, hOT6, hg6, hz6, hB6⟩ := hcut
  obtain ⟨w6, hw6⟩ : ∃ w6 : World, w6 = wc := ⟨_, rfl⟩
  subst hw6
  have cf6 : ∀ o, w6.frozen? ⟨g, o, none⟩ = false := fun o => hO6.row.frozenAt o
  have HO6 := Lib.hid hO6
  have HOI6 := Lib.hid (show OwnI w6 w1.heap.size (.slice At h ct) ((Q vv).take h) by unfold OwnI; rw [HTL.out]; exact hOT6)
  have HB6 := Lib.hid hB6
  have HGLT := Lib.hid hg6
  have HN := Lib.hid (show LenIs ((Q vv).take h) h from HTL.out)
  have HPOS := Lib.hid (show 0 < h by omega)
  have HLB := Lib.hid (show h ≤ 17592186044416 by omega)
  have hQcp : (upd (upd Q cp ((Q vv).take h)) vv ((Q vv).drop h)) cp = (Q vv).take h := by unfold upd; rw [if_neg (by omega), if_pos rfl]
  have HQcp := Lib.hid hQcp
  clear hO6 hOT6 hB6 c0 c1 cf hQcp
  obtain ⟨c0, cf⟩ := And.intro c0' cf6
  clear c0' cf6
  generalize hTT : (Q vv).take h = T at *
  clear hTT
  have hlen : 0 < h := HPOS.out
  obtain ⟨bq, hqA, hbq1, hbq2, hcl⟩ : ∃ bq, At = some ⟨bq, 0, none⟩ ∧ w1.heap.size ≤ bq ∧ bq < w6.heap.size ∧ w6.cell? ⟨bq, h - 1, none⟩ = some (.int .i64 (lst T (h - 1))) := by
    have hoi : OwnI w6 w1.heap.size (.slice At h ct) T := HOI6.out
    have hnn : T.length = h := HN.out
    rw [← hnn] at hoi hlen ⊢
    obtain ⟨gq, capq, hvq, hb1, hb2, _⟩ := own_form hoi hlen
    injection hvq with e1 _ e3
    subst e1 e3
    refine ⟨gq, rfl, hb1, hb2, ?_⟩
    obtain ⟨b, off, hA, _, hc⟩ := hoi.rd hlen
    injection hA with hA
    injection hA with e1 e2
    subst e1 e2
    simpa using hc (T.length - 1) (by omega) 0 _ rfl
  subst hqA
  have k0 : (0 : Int) ≤ ((h : Int) - 1) := by omega
  have k1 : (h : Int) - 1 < (h : Int) := by omega
  have k2 : ((h : Int) - 1).toNat = h - 1 := by omega
  have k3 : (1 : Int) ≤ (h : Int) := by omega
  have k4 : (h : Int) - 1 ≤ (ct : Int) := by omega
  have RTK : Hid (Rd w6 1 (tmC (lst (T.take (h - 1)))) (some ⟨bq, 0, none⟩) (h - 1)) := Lib.hid (by
    have hnn : T.length = h := HN.out
    have hoi : OwnI w6 w1.heap.size (.slice (some ⟨bq, 0, none⟩) T.length ct) T := by rw [hnn]; exact HOI6.out
    exact hoi.takeRd (by omega))
  go_wp2_with fail
  refine (cloneInt (some ⟨bq, 0, none⟩) (h - 1) ct (tmC (lst (T.take (h - 1)))) _ RTK.out (tmC_len _) (tmC_one _) (fun h => by cases h) (by have := HLB.out; omega)).mono ?_
  rintro e w5 ⟨v5, rfl, hown5, hb5⟩
  have hO5 : OwnI w5 w6.heap.size v5 T.dropLast := by
    have hnn : T.length = h := HN.out
    have e1 : T.dropLast.length = h - 1 := by rw [List.length_dropLast, hnn]
    unfold OwnI
    rw [e1, ← flatC_lst, e1, ← take_last, hnn]
    exact hown5
  obtain ⟨A5, c5, rfl, hn5, hc5, _⟩ := own_any hown5
  have d0 := (hb5.cell (p := ⟨g, cp, none⟩) HGLT.out).trans c0
  have df : ∀ o, w5.frozen? ⟨g, o, none⟩ = false := fun o => (hb5.frozen (p := ⟨g, o, none⟩) HGLT.out).trans (cf o)
  have HO5 := Lib.hid hO5
  have HB5 := Lib.hid hb5
  have hz5 := hb5.size
  clear hown5 hO5 hb5 c0 cf hcl k0 k1 k2 k3 k4
  go_wp2_with fail
  go_ret3
  unfold PopPost
  rw [HQcp.out, HTL.out]
  refine ⟨some ⟨g, 0, none⟩, cap, _, rfl, (OwnLs.put2 HO6.out hcp (grown_below HB5.out) (HO5.out.mono (by omega)) (fun k hk => ?_)).mono (by omega), ?_⟩
  · have h5 := (HO5.out.blk k hk).1
    have hg5 := HGLT.out
    refine ⟨by omega, fun j hj hne e => ?_⟩
    have := ((HO6.out.each j hj).blk k e).2
    omega
  · exact below_set (HB6.out.trans (HB5.out.mono (by omega))) (by omega)
end Go.Proofs.Ytjcegplockihfaa
