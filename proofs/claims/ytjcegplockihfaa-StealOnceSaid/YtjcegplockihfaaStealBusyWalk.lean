/- The walk of the law StealBusy. -/
import Derived.Test.YtjcegplockihfaaStealSame
import Derived.Test.YtjcegplockihfaaStealOpen
import Derived.Test.YtjcegplockihfaaConcat
namespace Go.Proofs.Ytjcegplockihfaa
open Go.RowKit Go.ChangeShapes Go.WideShapes
set_option linter.unusedVariables false
def PopFour (w : World) (e : Ending) (w' : World) : Prop := e = .returned (.tuple #[.slice none 0 0, .int .i64 0, .int .i64 4]) ∧ Below w.heap.size w w'
set_option maxRecDepth 100000 in
set_option maxHeartbeats 2000000 in
theorem pop_none4 (A : Option Addr) (n c cp : Nat) (Q : Nat → List Int) (S : Nat → Prop) (w : World) (hn : n ≤ c) (hc : c ≤ 9223372036854775807) (hR : RdLs w S A n Q) (hwf : WfQ Q n) (ok : OkLs Q n) (hcp : cp < n) (hpos : (Q cp).length = 0) (hv : vic Q n cp (n - 1) = -1) :
    Calls Try.prog 38 #[.slice A n c, .int .i64 cp] w (PopFour w) := by
  have e0 : (((Q cp).length : Int) == 0) = true := by simp; exact List.eq_nil_of_length_eq_zero hpos
  have HVI := Lib.hid hv
  have HOKK := Lib.hid ok
  have hle : (Q cp).length ≤ 0 := by omega
  clear hpos hv
  have H := Lib.hid (checkCpu_any A n c Q S cp w hn hc hR hwf)
  have HR := Lib.hid hR
  have HWF := Lib.hid hwf
  have HK := Lib.hid (show OkLs Q n ∧ (0 : Int) ≤ cp ∧ (cp : Int) < n from ⟨ok, by omega, by omega⟩)
  have h8 := ok.2.1
  have h100 := ok.2.2.1
  clear hR hwf ok
  go_enter Try.func38, Try.ntmps38
  go_wp2_with fail
  refine H.out.mono ?_
  rintro e w1 ⟨x, rfl, hx, hb⟩
  obtain rfl : x = 0 := hx.2 HK.out
  have HB1 := Lib.hid hb
  clear hx hb
  go_wp2_with fail
  refine (copyS_any A n c Q S _ hn hc (by omega) (HR.out.below HB1.out) (fun j hj => (HWF.out j hj).1)).mono ?_
  rintro e w3 ⟨v, vs, rfl, hO, hb3⟩
  obtain ⟨g, cap, rfl, hbase, hglt, hnc, hcm⟩ := own_form hO.row (by omega)
  obtain ⟨qA, qc, hvi, hq1, hq2, _⟩ := own_any (hO.each cp hcp)
  have c0 : w3.cell? ⟨g, cp, none⟩ = some (.slice qA (Q cp).length qc) := by
    have := own_cellC hO.row (vsC_len _) hcp (j := 0) (by omega)
    simp only [Nat.mul_one, Nat.add_zero] at this
    rw [this]; simp [vsC, hvi]
  have cf : ∀ o, w3.frozen? ⟨g, o, none⟩ = false := fun o => hO.row.frozenAt o
  have HOI := Lib.hid (show OwnI w3 w1.heap.size (.slice qA (Q cp).length qc) (Q cp) by rw [← hvi]; exact hO.each cp hcp)
  have HV := Lib.hid hvi
  have HO := Lib.hid hO
  have HB3 := Lib.hid (HB1.out.trans (hb3.mono HB1.out.size))
  have hz3 := hb3.size
  have hz1 := HB1.out.size
  have j0 : (0 : Int) ≤ (cp : Int) := by omega
  have j1 : (cp : Int) < (n : Int) := by omega
  clear hO hb3 hvi
  go_wp2_with fail
  refine (victim_ok A n c cp Q S _ hn hc (HR.out.below HB3.out) HWF.out HOKK.out hcp).mono ?_
  rintro e w4 ⟨rfl, hb4⟩
  rw [HVI.out]
  have HB4 := Lib.hid (HB3.out.trans (hb4.mono HB3.out.size))
  clear hb4 c0 cf
  go_wp2_with fail
  go_ret3
  exact ⟨rfl, HB4.out⟩
theorem cat_zero {Q : Nat → List Int} : ∀ {n : Nat}, (∀ i, i < n → (Q i).length = 0) → (catTo Q n).length = 0 := by
  intro n
  induction n with
  | zero => intro _; rfl
  | succ n ih =>
    intro h
    rw [catTo, List.length_append, ih fun i hi => h i (by omega), h n (by omega)]
theorem cat_pos {Q : Nat → List Int} {n v : Nat} (hv : v < n) (h : 0 < (Q v).length) : 0 < (catTo Q n).length := by
  have h1 := catTo_le Q (show v + 1 ≤ n by omega)
  rw [catTo, List.length_append] at h1
  omega
def busyE (Q : Nat → List Int) (n : Nat) : Int := if 0 < (catTo Q n).length then 0 else 4
def PopBusy (x : Int) (w : World) (e : Ending) (w' : World) : Prop := ∃ v t, e = .returned (.tuple #[v, .int .i64 t, .int .i64 x]) ∧ Below w.heap.size w w'
theorem pop_busy (A : Option Addr) (n c cp : Nat) (Q : Nat → List Int) (S : Nat → Prop) (w : World) (hn : n ≤ c) (hc : c ≤ 9223372036854775807) (hR : RdLs w S A n Q) (hwf : WfQ Q n) (ok : OkLs Q n) (hcp : cp < n) :
    Calls Try.prog 38 #[.slice A n c, .int .i64 cp] w (PopBusy (busyE Q n) w) := by
  by_cases hpos : 0 < (Q cp).length
  · refine (pop_own A n c cp Q S w hn hc hR hwf ok hcp hpos).mono ?_
    rintro e w' ⟨A', c', vs, rfl, _, hb⟩
    rw [show busyE Q n = 0 by rw [busyE, if_pos (cat_pos hcp hpos)]]
    exact ⟨_, _, rfl, hb⟩
  · have hz : (Q cp).length = 0 := by omega
    by_cases hvic : vic Q n cp (n - 1) = -1
    · refine (pop_none4 A n c cp Q S w hn hc hR hwf ok hcp hz hvic).mono ?_
      rintro e w' ⟨rfl, hb⟩
      have h0 : (catTo Q n).length = 0 := cat_zero fun i hi => by
        by_cases e : i = cp
        · rw [e]; exact hz
        · exact vic_none (by omega) hcp hvic i hi e
      rw [show busyE Q n = 4 by rw [busyE, if_neg (by omega)]]
      exact ⟨_, _, rfl, hb⟩
    · obtain ⟨vv, hvv, hvn, hvc, hvp⟩ := vic_some (Q := Q) (n := n) (cp := cp) (by omega) hcp hvic
      refine (pop_steal A n c cp Q S w hn hc hR hwf ok hcp hz vv hvv hvn hvc hvp).mono ?_
      rintro e w' ⟨A', c', vs, rfl, _, hb⟩
      rw [show busyE Q n = 0 by rw [busyE, if_pos (cat_pos hvn hvp)]]
      exact ⟨_, _, rfl, hb⟩
set_option maxRecDepth 100000 in
set_option maxHeartbeats 4000000 in
theorem stealBusy_go (A : Option Addr) (n c : Nat) (Q : Nat → List Int) (S : Nat → Prop) (cpu : Int) (w : World) (hn : n ≤ c) (hc : c ≤ 9223372036854775807) (hR : RdLs w S A n Q) (hwf : WfQ Q n) :
    Calls Try.prog 13 #[.slice A n c, .int .i64 cpu] w fun e w' => e = .returned (.bool true) ∧ Below w.heap.size w w' := by
  have HR := Lib.hid hR
  have HWF := Lib.hid hwf
  clear hR hwf
  by_cases ok : OkLs Q n
  rotate_left
  · have HK := Lib.hid ok
    have HBAD := Lib.hid (show ¬ (OkLs Q n ∧ 0 ≤ cpu ∧ cpu < n) from fun h => ok h.1)
    clear ok
    go_enter Try.func13, Try.ntmps13
    go_wp2_with fail
    refine (pop_bad A n c Q S cpu _ hn hc HR.out HWF.out HBAD.out).mono ?_
    rintro e w0 ⟨x0, hx0, rfl, hb0⟩
    have hx0' : (x0 != 0) = true := by simpa using hx0
    have HB0 := Lib.hid hb0
    clear hb0 hx0
    go_wp2_with fail
    refine (steals_any _).mono ?_
    rintro e w1 ⟨rfl, hb1⟩
    have HB1 := Lib.hid (HB0.out.trans (hb1.mono HB0.out.size))
    clear hb1
    go_wp2_with fail
    refine (checkS_any A n c Q S _ hn hc (HR.out.below HB1.out) HWF.out).mono ?_
    rintro e w2 ⟨x, rfl, hx, hb⟩
    have hx1 : (x != 0) = true := by simpa using (fun h => HK.out (hx.1 h) : x ≠ 0)
    have HB2 := Lib.hid (HB1.out.trans (hb.mono HB1.out.size))
    clear hx hb
    go_wp2_with fail
    refine (steals_any _).mono ?_
    rintro e w3 ⟨rfl, hb3⟩
    have HB3 := Lib.hid (HB2.out.trans (hb3.mono HB2.out.size))
    clear hb3
    go_wp2_with fail
    go_ret
    exact ⟨rfl, HB3.out⟩
  have HK := Lib.hid ok
  clear ok
  by_cases hcp : 0 ≤ cpu ∧ cpu < n
  rotate_left
  · have HBAD := Lib.hid (show ¬ (OkLs Q n ∧ 0 ≤ cpu ∧ cpu < n) from fun h => hcp h.2)
    have hq : cpu < 0 ∨ (n : Int) ≤ cpu := by omega
    clear hcp
    by_cases q0 : cpu < 0
    · have e0 : decide (cpu < 0) = true := by simpa using q0
      go_enter Try.func13, Try.ntmps13
      go_wp2_with fail
      refine (pop_bad A n c Q S cpu _ hn hc HR.out HWF.out HBAD.out).mono ?_
      rintro e w0 ⟨x0, hx0, rfl, hb0⟩
      have hx0' : (x0 != 0) = true := by simpa using hx0
      have HB0 := Lib.hid hb0
      clear hb0 hx0
      go_wp2_with fail
      refine (steals_any _).mono ?_
      rintro e w1 ⟨rfl, hb1⟩
      have HB1 := Lib.hid (HB0.out.trans (hb1.mono HB0.out.size))
      clear hb1
      go_wp2_with fail
      refine (checkS_any A n c Q S _ hn hc (HR.out.below HB1.out) HWF.out).mono ?_
      rintro e w2 ⟨x, rfl, hx, hb⟩
      obtain rfl : x = 0 := hx.2 HK.out
      have HB2 := Lib.hid (HB1.out.trans (hb.mono HB1.out.size))
      clear hx hb
      go_wp2_with fail
      refine (steals_any _).mono ?_
      rintro e w3 ⟨rfl, hb3⟩
      have HB3 := Lib.hid (HB2.out.trans (hb3.mono HB2.out.size))
      clear hb3
      go_wp2_with fail
      go_ret
      exact ⟨rfl, HB3.out⟩
    · have e0 : decide (cpu < 0) = false := by simpa using q0
      have e1 : decide ((n : Int) ≤ cpu) = true := by simp; omega
      go_enter Try.func13, Try.ntmps13
      go_wp2_with fail
      refine (pop_bad A n c Q S cpu _ hn hc HR.out HWF.out HBAD.out).mono ?_
      rintro e w0 ⟨x0, hx0, rfl, hb0⟩
      have hx0' : (x0 != 0) = true := by simpa using hx0
      have HB0 := Lib.hid hb0
      clear hb0 hx0
      go_wp2_with fail
      refine (steals_any _).mono ?_
      rintro e w1 ⟨rfl, hb1⟩
      have HB1 := Lib.hid (HB0.out.trans (hb1.mono HB0.out.size))
      clear hb1
      go_wp2_with fail
      refine (checkS_any A n c Q S _ hn hc (HR.out.below HB1.out) HWF.out).mono ?_
      rintro e w2 ⟨x, rfl, hx, hb⟩
      obtain rfl : x = 0 := hx.2 HK.out
      have HB2 := Lib.hid (HB1.out.trans (hb.mono HB1.out.size))
      clear hx hb
      go_wp2_with fail
      refine (steals_any _).mono ?_
      rintro e w3 ⟨rfl, hb3⟩
      have HB3 := Lib.hid (HB2.out.trans (hb3.mono HB2.out.size))
      clear hb3
      go_wp2_with fail
      go_ret
      exact ⟨rfl, HB3.out⟩
  obtain ⟨cp, rfl⟩ : ∃ cp : Nat, cpu = cp := ⟨cpu.toNat, by omega⟩
  have hcn : cp < n := by omega
  have e0 : decide ((cp : Int) < 0) = false := by simp
  have e1 : decide ((n : Int) ≤ (cp : Int)) = false := by simp; omega
  have e1' : decide (n ≤ cp) = false := by simp; omega
  clear hcp
  have hl100 := HK.out.2.2.1
  go_enter Try.func13, Try.ntmps13
  go_wp2_with fail
  refine (pop_busy A n c cp Q S _ hn hc HR.out HWF.out HK.out hcn).mono ?_
  rintro e w0 ⟨v0, t0, rfl, hb0⟩
  have HB0 := Lib.hid hb0
  clear hb0
  generalize hE : busyE Q n = E
  have HE := Lib.hid hE
  clear hE
  go_wp2_with fail
  refine (steals_any _).mono ?_
  rintro e w1 ⟨rfl, hb1⟩
  have HB1 := Lib.hid (HB0.out.trans (hb1.mono HB0.out.size))
  clear hb1
  go_wp2_with fail
  refine (checkS_any A n c Q S _ hn hc (HR.out.below HB1.out) HWF.out).mono ?_
  rintro e w2 ⟨x, rfl, hx, hb⟩
  obtain rfl : x = 0 := hx.2 HK.out
  have HB2 := Lib.hid (HB1.out.trans (hb.mono HB1.out.size))
  clear hx hb
  go_wp2_with fail
  refine (concat_any A n c Q S _ hn hc (HR.out.below HB2.out) (by omega)).mono ?_
  rintro e w3 ⟨v3, rfl, hown3, hb3⟩
  have HB3 := Lib.hid (HB2.out.trans (hb3.mono HB2.out.size))
  obtain ⟨A3, c3, rfl, _, _, _⟩ := own_any hown3
  clear hb3 hown3
  have hE := HE.out
  unfold busyE at hE
  generalize (catTo Q n).length = L at *
  by_cases hp : 0 < L
  · rw [if_pos hp] at hE
    subst hE
    have k1 : decide ((0 : Int) < (L : Int)) = true := by simp; omega
    go_wp2_with fail
    go_ret
    exact ⟨rfl, HB3.out⟩
  · rw [if_neg hp] at hE
    subst hE
    obtain rfl : L = 0 := by omega
    go_wp2_with fail
    go_ret
    exact ⟨rfl, HB3.out⟩
set_option maxRecDepth 100000 in
theorem stealBusy_walk {H : Type} {enc : TypeId × Value → H} (W : World) (base : Nat) (v0 v1 : Value) {d0 d1 : DataW H} {p0 p1 : List MemPlace}
    (k0 : Value.okWide Try.prog W .any base 63 v0) (k1 : Value.okWide Try.prog W .any base 3 v1)
    (h0 : DataW.Trod enc Try.prog W 0 (fun _ => true) true 63 v0 d0 p0) (h1 : DataW.Trod enc Try.prog W 0 (fun _ => true) true 3 v1 d1 p1) (hz : ∀ k ∈ d0.weights Try.prog 63, k ≤ reachBytes) :
    Calls Try.prog 13 #[v0, v1] W fun e W' => e = .returned (.bool true) ∧ Below W.heap.size W W' := by
  obtain ⟨A, n, c, Q, rfl, hnc, hcm, hA, hR, hwf⟩ := open_lines k0 h0 hz
  obtain ⟨a1, rfl, _, _, _⟩ := open_int Try.underlying3 k1 h1
  exact stealBusy_go A n c Q _ a1 W hnc hcm hR hwf
end Go.Proofs.Ytjcegplockihfaa
