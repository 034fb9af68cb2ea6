/- The walk of the law TurnLag. -/
import Derived.Test.YtjcegplockihfaaTurnPlan
import Derived.Test.YtjcegplockihfaaTurnNext
import Derived.Test.YtjcegplockihfaaOpen
namespace Go.Proofs.Ytjcegplockihfaa
open Go.RowKit Go.ChangeShapes Go.WideShapes
set_option linter.unusedVariables false
def lstJ (l : List Jb) : Nat → Jb := fun k => l.getD k ⟨0, 0⟩
theorem jobs_lst (l : List Jb) : jobsL (lstJ l) l.length = l := by
  apply List.ext_getElem?
  intro k
  by_cases h : k < l.length
  · rw [jobsL_get _ h, List.getElem?_eq_getElem h]; simp [lstJ, h]
  · rw [List.getElem?_eq_none (by rw [jobsL_len]; omega), List.getElem?_eq_none (by omega)]
theorem rd_jobs {w : World} {base c : Nat} {A : Option Addr} {l : List Jb} (h : w.ownsRow base 47 2 (.slice A l.length c) l.length (encJ l)) : Rd w 2 (jbC (lstJ l)) A l.length := by
  refine Rd.of_own (jbC_len _) (c := c) (base := base) (e := 47) ?_
  rw [flatC_jobs, jobs_lst]
  exact h
theorem nodup_inj {l : List Int} (h : l.Nodup) {a k : Nat} (ha : a < l.length) (hk : k < l.length) (e : l[a] = l[k]) : a = k := by
  rw [List.nodup_iff_pairwise_ne, List.pairwise_iff_getElem] at h
  rcases Nat.lt_trichotomy a k with hlt | rfl | hlt
  · exact absurd e (h a k ha hk hlt)
  · rfl
  · exact absurd e.symm (h k a hk ha hlt)
/-- where a job is among those that are done -/
theorem found_job {l out : List Jb} {f tot : Int} (h : PI l f [] tot out) (hnd : (idsJ l).Nodup) {k : Nat} {j : Jb} (hj : l[k]? = some j) :
    ∃ i : Nat, ixOf (idJ (lstJ out) j.id) out.length = (i : Int) ∧ i < out.length ∧ (lstJ out i).st ≤ (j.st + f - 1) / f * f * (l.length : Int) := by
  have hmem : j.id ∈ idsJ out := by
    have h1 : j.id ∈ idsJ l := List.mem_map.2 ⟨j, List.mem_of_getElem? hj, rfl⟩
    have h2 := h.ids.symm.subset h1
    simpa [idsJ] using h2
  rcases ixOf_cases (idJ (lstJ out) j.id) out.length with ⟨_, hno⟩ | ⟨i, e, hi, hp, _⟩
  · exfalso
    obtain ⟨o, ho, hoid⟩ := List.mem_map.1 hmem
    obtain ⟨i, hi⟩ := List.mem_iff_getElem?.1 ho
    obtain ⟨hlt, he⟩ := List.getElem?_eq_some_iff.1 hi
    have := hno i hlt
    simp [idJ, lstJ, hlt, he] at this
    exact this hoid
  · refine ⟨i, e, hi, ?_⟩
    have hp' : (lstJ out i).id = j.id := by simpa [idJ] using hp
    have ho : lstJ out i ∈ out := by simp [lstJ, hi]
    obtain ⟨x, hx, hxid, hle⟩ := h.lagO _ ho
    have hxj : x = j := by
      obtain ⟨a, ha⟩ := List.mem_iff_getElem?.1 hx
      obtain ⟨ha1, ha2⟩ := List.getElem?_eq_some_iff.1 ha
      obtain ⟨hk1, hk2⟩ := List.getElem?_eq_some_iff.1 hj
      have e2 : (idsJ l)[a]'(by simpa [idsJ] using ha1) = (idsJ l)[k]'(by simpa [idsJ] using hk1) := by
        simp only [idsJ, List.getElem_map, ha2, hk2]
        exact hxid.trans hp'
      have : a = k := nodup_inj hnd _ _ e2
      subst this
      rw [← ha2, hk2]
    rw [hxj] at hle
    exact hle
theorem prod_facts {s f : Int} {n : Nat} (h1 : 1 ≤ s) (h2 : s ≤ 10000) (h3 : 1 ≤ f) (h4 : f ≤ 10000) (h5 : n ≤ 100) :
    0 ≤ (s + f - 1) / f ∧ (s + f - 1) / f ≤ 20000 ∧ 0 ≤ (s + f - 1) / f * f ∧ (s + f - 1) / f * f ≤ 20000 ∧ 0 ≤ (s + f - 1) / f * f * (n : Int) ∧ (s + f - 1) / f * f * (n : Int) ≤ 2000000 := by
  have a1 : 0 ≤ (s + f - 1) / f := Int.ediv_nonneg (by omega) (by omega)
  have a2 : (s + f - 1) / f * f ≤ s + f - 1 := Int.ediv_mul_le _ (by omega)
  have a3 : 0 ≤ (s + f - 1) / f * f := Int.mul_nonneg a1 (by omega)
  have a4 : (s + f - 1) / f ≤ (s + f - 1) / f * f := by
    have := Int.mul_le_mul_of_nonneg_left h3 a1
    simpa using this
  have a5 : 0 ≤ (s + f - 1) / f * f * (n : Int) := Int.mul_nonneg a3 (by omega)
  have a6 : (s + f - 1) / f * f * (n : Int) ≤ (s + f - 1) / f * f * 100 := Int.mul_le_mul_of_nonneg_left (by omega) a3
  omega
set_option maxRecDepth 100000 in
set_option maxHeartbeats 2000000 in
theorem turnLag_go (A : Option Addr) (n c : Nat) (R : Nat → Jb) (f : Int) (w : World) (hn : n ≤ c) (hc : c ≤ 9223372036854775807) (hA : A = none → n = 0) (hR : Rd w 2 (jbC R) A n) :
    Calls Try.prog 8 #[.slice A n c, .int .i64 f] w fun e w' => e = .returned (.bool true) ∧ Below w.heap.size w w' := by
  have HR := Lib.hid hR
  have HA := Lib.hid hA
  clear hR hA
  by_cases ok : OkJ R n f
  · have HK := Lib.hid ok
    have hn100 := ok.1
    have hf1 := ok.2.1
    have hf2 := ok.2.2.1
    clear ok
    go_enter Try.func8, Try.ntmps8
    go_wp2_with fail
    refine (plan_ok A n c R f w hn hc HA.out HR.out HK.out).mono ?_
    rintro e w1 ⟨v, out, tot, rfl, hown, hPI, hb1⟩
    obtain ⟨B, d, rfl, hnd, hdm, _⟩ := own_any hown
    have HO := Lib.hid (rd_jobs hown)
    have HPI := Lib.hid hPI
    have HB1 := Lib.hid hb1
    clear hown hPI hb1
    go_wp2_with fail
    refine (turns_any _).mono ?_
    rintro e w2 ⟨rfl, hb2⟩
    have HB12 := Lib.hid hb2
    have HB2 := Lib.hid (HB1.out.trans (hb2.mono HB1.out.size))
    clear hb2
    go_wp2_with fail
    go_loopw [8, 9, 10, 26] (fun _ _ _ i wr => ∃ k : Nat, k ≤ n ∧ i = .int .i64 k ∧ Below w2.heap.size w2 wr) (fun _ _ _ i _ => n - (intOf i).toNat)
    case atStart => exact ⟨0, Nat.zero_le _, rfl, Below.refl _ _⟩
    case round =>
      obtain ⟨k, hk, rfl, hB⟩ := hrel
      have hBw : Below w.heap.size w wr := HB2.out.trans (hB.mono HB2.out.size)
      by_cases hlt : k < n
      · obtain ⟨b, off, rfl, hb, hcell⟩ := HR.out (by omega)
        have c0 : wr.cell? ⟨b, off + k * 2, none⟩ = some (.int .i64 (R k).id) := (hBw.cell (p := ⟨b, _, none⟩) hb).trans (hcell k hlt 0 _ rfl)
        have c1 : wr.cell? ⟨b, off + k * 2 + 1, none⟩ = some (.int .i64 (R k).st) := (hBw.cell (p := ⟨b, _, none⟩) hb).trans (hcell k hlt 1 _ rfl)
        obtain ⟨i, hix, hil, hle⟩ := found_job HPI.out HK.out.nodup (jobsL_get R hlt)
        rw [jobsL_len] at hle
        have hfk := HK.out.2.2.2 k hlt
        obtain ⟨s1, s2, _⟩ := hfk
        obtain ⟨p1, p2, p3, p4, p5, p6⟩ := prod_facts s1 s2 hf1 hf2 hn100
        have HIX := Lib.hid hix
        clear hix hcell
        generalize (R k).id = id at *
        generalize (R k).st = st at *
        have HBw := Lib.hid hBw
        have HB := Lib.hid hB
        have hBs := hB.size
        have hf0 : (f == 0) = false := by simp; omega
        clear hB hBw
        go_wp2_with fail
        refine (ixJ_eq 28 lag1_enters lag1_any B out.length d (lstJ out) id wr.heap.size _ (by omega) (by exact (HO.out.below (HB12.out.trans (HB.out.mono HB12.out.size))).alloc _) (by simp) (by simp [go_sem])).mono ?_
        rintro e w3 ⟨rfl, hb3⟩
        rw [HIX.out]
        obtain ⟨b2, off2, hBB, hb2, hc2⟩ := (HO.out.below (HB12.out.trans (HB.out.mono HB12.out.size))).alloc (.cells #[.int .i64 id, .int .i64 st] 47) (by omega)
        subst hBB
        have e1 : w3.cell? ⟨b2, off2 + i * 2 + 1, none⟩ = some (.int .i64 (lstJ out i).st) := (hb3.cell (p := ⟨b2, _, none⟩) hb2).trans (hc2 i hil 1 _ rfl)
        have HB3 := Lib.hid ((HB.out.alloc hBs _).trans (hb3.mono (by simp; omega)))
        have i1 : (0 : Int) ≤ (i : Int) := by omega
        have i2 : (i : Int) < (out.length : Int) := by omega
        have hng : ¬ ((st + f - 1) / f * f * (n : Int) < (lstJ out i).st) := by omega
        clear hb3 hc2 c0 c1
        go_wp2_with fail
        exact ⟨⟨k + 1, by omega, by go_num, HB3.out⟩, by simp [intOf]; omega⟩
      · go_wp2_with fail
        go_ret
        exact ⟨rfl, hBw⟩
  · have HK := Lib.hid ok
    clear ok
    go_enter Try.func8, Try.ntmps8
    go_wp2_with fail
    refine (plan_bad A n c R f w hn hc HR.out HK.out).mono ?_
    rintro e w1 ⟨x, hx, rfl, hb1⟩
    have hx0 : (x != 0) = true := by simpa using hx
    have HB1 := Lib.hid hb1
    clear hb1
    go_wp2_with fail
    refine (turns_any _).mono ?_
    rintro e w2 ⟨rfl, hb2⟩
    have HB2 := Lib.hid (HB1.out.trans (hb2.mono HB1.out.size))
    clear hb2
    go_wp2_with fail
    refine (turns_any _).mono ?_
    rintro e w3 ⟨rfl, hb3⟩
    have HB3 := Lib.hid (HB2.out.trans (hb3.mono HB2.out.size))
    clear hb3
    go_wp2_with fail
    go_ret
    exact ⟨rfl, HB3.out⟩
set_option maxRecDepth 100000 in
theorem open_jobs {H : Type} {enc : TypeId × Value → H} {W : World} {base : Nat} {v : Value} {d : DataW H} {p : List MemPlace} (k0 : Value.okWide Try.prog W .any base 42 v) (h0 : DataW.Trod enc Try.prog W 0 (fun _ => true) true 42 v d p) :
    ∃ A n c R, v = .slice A n c ∧ n ≤ c ∧ c ≤ 9223372036854775807 ∧ (A = none → n = 0) ∧ Rd W 2 (jbC R) A n := by
  obtain ⟨a0, l0, cp0, rfl⟩ := okWide_slice Try.underlying42 k0
  obtain ⟨fuel, hf⟩ := h0
  obtain ⟨A, n, c, C, hcs, hnc, hcm, hA, hR, hlen, hel⟩ := open_rows Try.underlying42 (sz := 2) (by kernel_rfl) (by omega) hf
  have hv : Value.slice a0 l0 cp0 = .slice A n c := by simpa [Value.cells] using hcs
  have hall : ∀ i, ∃ q : Jb, i < n → C i = jbC (fun _ => q) i := fun i => by
    by_cases hi : i < n
    · obtain ⟨m, y, hy⟩ := hel i hi
      have hf := trod_fields Try.underlying47 (by kernel_rfl) hy
      match hC : C i, hlen i with
      | [c0, c1], _ =>
        rw [hC] at hf
        obtain ⟨m0, y0, h0⟩ := hf 0 _ c0 rfl rfl
        obtain ⟨m1, y1, h1⟩ := hf 1 _ c1 rfl rfl
        obtain ⟨z0, e0, _, _⟩ := DataW.trod_int Try.underlying3 h0
        obtain ⟨z1, e1, _, _⟩ := DataW.trod_int Try.underlying3 h1
        simp at e0 e1
        exact ⟨⟨z0, z1⟩, fun _ => by rw [e0, e1]; rfl⟩
    · exact ⟨⟨0, 0⟩, fun h => absurd h hi⟩
  obtain ⟨Q, hQ⟩ := Classical.axiomOfChoice hall
  exact ⟨A, n, c, Q, hv, hnc, hcm, hA, hR.congr fun k hk => hQ k hk⟩
set_option maxRecDepth 100000 in
theorem turnLag_walk {H : Type} {enc : TypeId × Value → H} (W : World) (base : Nat) (v0 v1 : Value) {d0 d1 : DataW H} {p0 p1 : List MemPlace}
    (k0 : Value.okWide Try.prog W .any base 42 v0) (k1 : Value.okWide Try.prog W .any base 3 v1)
    (h0 : DataW.Trod enc Try.prog W 0 (fun _ => true) true 42 v0 d0 p0) (h1 : DataW.Trod enc Try.prog W 0 (fun _ => true) true 3 v1 d1 p1) :
    Calls Try.prog 8 #[v0, v1] W fun e W' => e = .returned (.bool true) ∧ Below W.heap.size W W' := by
  obtain ⟨A, n, c, R, rfl, hnc, hcm, hA, hR⟩ := open_jobs k0 h0
  obtain ⟨a1, rfl, _, _, _⟩ := open_int Try.underlying3 k1 h1
  exact turnLag_go A n c R a1 W hnc hcm hA hR
end Go.Proofs.Ytjcegplockihfaa
