/- The walk of the law StealOwn. -/
import Derived.Test.YtjcegplockihfaaStealSame
import Derived.Test.YtjcegplockihfaaStealOpen
namespace Go.Proofs.Ytjcegplockihfaa
open Go.RowKit Go.ChangeShapes Go.WideShapes
set_option linter.unusedVariables false
theorem catTo_congr {Q Q' : Nat → List Int} : ∀ n, (∀ i, i < n → Q i = Q' i) → catTo Q n = catTo Q' n
  | 0, _ => rfl
  | n + 1, h => by
    have h1 : catTo Q n = catTo Q' n := catTo_congr n (fun i hi => h i (by omega))
    rw [catTo, catTo, h1, h n (by omega)]
theorem catTo_push {Q : Nat → List Int} {cp : Nat} {x : Int} : ∀ n, cp < n → (catTo (upd Q cp (Q cp ++ [x])) n).Perm (catTo Q n ++ [x])
  | 0, h => by omega
  | n + 1, h => by
    rw [catTo, catTo]
    by_cases e : cp = n
    · subst e
      rw [catTo_congr (Q := upd Q cp (Q cp ++ [x])) (Q' := Q) cp (fun i hi => by unfold upd; rw [if_neg (by omega)])]
      rw [show upd Q cp (Q cp ++ [x]) cp = Q cp ++ [x] by unfold upd; simp]
      rw [List.append_assoc]
    · rw [show upd Q cp (Q cp ++ [x]) n = Q n by unfold upd; rw [if_neg (by omega)]]
      have := (catTo_push (Q := Q) (cp := cp) (x := x) n (by omega)).append_right (Q n)
      refine this.trans ?_
      rw [List.append_assoc, List.append_assoc]
      exact List.Perm.append_left _ List.perm_append_comm
theorem RdLs.congr {w : World} {S : Nat → Prop} {A : Option Addr} {n : Nat} {Q Q' : Nat → List Int} (h : RdLs w S A n Q) (hq : ∀ i, i < n → Q i = Q' i) : RdLs w S A n Q' := fun h0 => by
  obtain ⟨b, off, e, hb, hs, hc⟩ := h h0
  refine ⟨b, off, e, hb, hs, fun i hi => ?_⟩
  rw [← hq i hi]
  exact hc i hi
theorem push_okLs {Q : Nat → List Int} {n cp : Nat} {x : Int} (h : PushOk Q n cp x) : OkLs (upd Q cp (Q cp ++ [x])) n := by
  obtain ⟨⟨⟨h1, h2, h3, h4⟩, _, h5⟩, h6, h7⟩ := h
  have hp := catTo_push (Q := Q) (x := x) n (show cp < n by omega)
  refine ⟨h1, h2, ?_, ?_⟩
  · rw [hp.length_eq]; simp; omega
  · rw [hp.nodup_iff, List.nodup_append]
    refine ⟨h4, by simp, fun a ha b hb => ?_⟩
    simp at hb
    subst hb
    intro e
    subst e
    exact h6 ha
theorem push_wf {Q : Nat → List Int} {n cp : Nat} {x : Int} (h : WfQ Q n) (hx : Wf x) (hok : OkLs (upd Q cp (Q cp ++ [x])) n) : WfQ (upd Q cp (Q cp ++ [x])) n := fun i hi => by
  refine ⟨?_, fun y hy => ?_⟩
  · obtain ⟨m, hm⟩ := catTo_mono (upd Q cp (Q cp ++ [x])) (show i + 1 ≤ n by omega)
    have h1 := hok.2.2.1
    rw [hm, catTo] at h1
    simp only [List.length_append] at h1
    omega
  · unfold upd at hy
    by_cases e : i = cp
    · simp only [e, if_true] at hy
      rcases List.mem_append.1 hy with h1 | h1
      · exact (h cp (by omega)).2 y h1
      · simp at h1; subst h1; exact hx
    · simp only [e, if_false] at hy
      exact (h i hi).2 y hy
set_option maxRecDepth 100000 in
set_option maxHeartbeats 2000000 in
theorem stealOwn_go (A : Option Addr) (n c : Nat) (Q : Nat → List Int) (S : Nat → Prop) (cpu task : Int) (w : World) (hn : n ≤ c) (hc : c ≤ 9223372036854775807) (hR : RdLs w S A n Q) (hwf : WfQ Q n) (hx : Wf task) :
    Calls Try.prog 11 #[.slice A n c, .int .i64 cpu, .int .i64 task] w fun e w' => e = .returned (.bool true) ∧ Below w.heap.size w w' := by
  have H := Lib.hid (push_any A n c Q S cpu task w hn hc hR hwf)
  have HR := Lib.hid hR
  have HWF := Lib.hid hwf
  have HX := Lib.hid hx
  clear hR hwf hx
  go_enter Try.func11, Try.ntmps11
  go_wp2_with fail
  refine H.out.mono ?_
  rintro e w1 (⟨_, x, hx, rfl, hb⟩ | ⟨hok, A1, c1, vs, rfl, hO, hb⟩)
  · have hx0 : (x != 0) = true := by simpa using hx
    have HB1 := Lib.hid hb
    clear hx hb
    go_wp2_with fail
    refine (steals_any _).mono ?_
    rintro e w2 ⟨rfl, hb2⟩
    have HB2 := Lib.hid (HB1.out.trans (hb2.mono HB1.out.size))
    clear hb2
    go_wp2_with fail
    refine (steals_any _).mono ?_
    rintro e w3 ⟨rfl, hb3⟩
    have HB3 := Lib.hid (HB2.out.trans (hb3.mono HB2.out.size))
    clear hb3
    go_wp2_with fail
    go_ret
    exact ⟨rfl, HB3.out⟩
  · obtain ⟨cp, rfl⟩ : ∃ cp : Nat, cpu = cp := ⟨cpu.toNat, by have := hok.1.2.1; omega⟩
    have hcp : cp < n := by have := hok.1.2.2; omega
    have HOK := Lib.hid (push_okLs hok)
    have hn1 : n ≤ c1 ∧ c1 ≤ 9223372036854775807 := by
      obtain ⟨A', c', hv, h1, h2, _⟩ := own_any hO.row
      injection hv with _ _ e3
      subst e3
      exact ⟨h1, h2⟩
    have HB1 := Lib.hid hb
    have HO := Lib.hid hO
    clear hb hO hok
    simp only [Int.toNat_natCast] at HO
    go_wp2_with fail
    refine (steals_any _).mono ?_
    rintro e w2 ⟨rfl, hb2⟩
    have HO2 := Lib.hid (HO.out.below hb2)
    have HB2 := Lib.hid (HB1.out.trans (hb2.mono HB1.out.size))
    clear hb2
    go_wp2_with fail
    refine (pop_own A1 n c1 cp _ (fun _ => True) _ hn1.1 hn1.2 HO2.out.rd (push_wf HWF.out HX.out HOK.out) HOK.out hcp (by unfold upd; simp)).mono ?_
    rintro e w3 ⟨A3, c3, vs3, rfl, hO3, hb3⟩
    have HQ : Hid (∀ i, i < n → upd (upd Q cp (Q cp ++ [task])) cp (upd Q cp (Q cp ++ [task]) cp).dropLast i = Q i) := Lib.hid (fun i hi => by
      unfold upd
      by_cases e : i = cp
      · simp [e]
      · simp [e])
    have hlast : lst (upd Q cp (Q cp ++ [task]) cp) ((upd Q cp (Q cp ++ [task]) cp).length - 1) = task := by
      unfold upd
      simp [lst]
    rw [hlast]
    have HO3 := Lib.hid hO3
    have HB3 := Lib.hid (HB2.out.trans (hb3.mono HB2.out.size))
    clear hb3 hO3 hlast
    have hte : (task == task) = true := by simp
    go_wp2_with fail
    refine (sameL_ok A3 A n c3 c Q (fun _ => True) S _ (by omega) ?_ (HR.out.below HB3.out)).mono ?_
    · exact HO3.out.rd.congr HQ.out
    · rintro e w4 ⟨rfl, hb4⟩
      have HB4 := Lib.hid (HB3.out.trans (hb4.mono HB3.out.size))
      clear hb4
      go_wp2_with fail
      go_ret
      exact ⟨rfl, HB4.out⟩
set_option maxRecDepth 100000 in
theorem stealOwn_walk {H : Type} {enc : TypeId × Value → H} (W : World) (base : Nat) (v0 v1 v2 : Value) {d0 d1 d2 : DataW H} {p0 p1 p2 : List MemPlace}
    (k0 : Value.okWide Try.prog W .any base 63 v0) (k1 : Value.okWide Try.prog W .any base 3 v1) (k2 : Value.okWide Try.prog W .any base 3 v2)
    (h0 : DataW.Trod enc Try.prog W 0 (fun _ => true) true 63 v0 d0 p0) (h1 : DataW.Trod enc Try.prog W 0 (fun _ => true) true 3 v1 d1 p1) (h2 : DataW.Trod enc Try.prog W 0 (fun _ => true) true 3 v2 d2 p2) (hz : ∀ k ∈ d0.weights Try.prog 63, k ≤ reachBytes) :
    Calls Try.prog 11 #[v0, v1, v2] W fun e W' => e = .returned (.bool true) ∧ Below W.heap.size W W' := by
  obtain ⟨A, n, c, Q, rfl, hnc, hcm, hA, hR, hwf⟩ := open_lines k0 h0 hz
  obtain ⟨a1, rfl, _, _, _⟩ := open_int Try.underlying3 k1 h1
  obtain ⟨a2, rfl, _, _, hw2⟩ := open_int Try.underlying3 k2 h2
  exact stealOwn_go A n c Q _ a1 a2 W hnc hcm hR hwf hw2
end Go.Proofs.Ytjcegplockihfaa
