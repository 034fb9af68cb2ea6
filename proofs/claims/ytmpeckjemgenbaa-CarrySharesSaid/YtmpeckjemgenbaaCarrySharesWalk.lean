/- The walk of the law CarryShares. -/
import Derived.Test.YtmpeckjemgenbaaAlike
import Derived.Test.YtmpeckjemgenbaaCarryOver
import Derived.Test.YtmpeckjemgenbaaCarries
import Derived.Test.YtmpeckjemgenbaaHeapOpen
namespace Go.Proofs.Ytmpeckjemgenbaa
open Go.RowKit Go.ChangeShapes Go.WideShapes Go.Deep
set_option linter.unusedVariables false
theorem inv_start {f t : List Nat} {was : List Ob} (h : ObsOf t was) : InvS f was ⟨t, [], []⟩ [] :=
  ⟨by rw [List.append_nil]; exact h, rfl, fun a pl h => by simp [look] at h, fun a b pl h => by simp [look] at h⟩
theorem okS_start {f t : List Nat} (h : t.length ≤ 4000) (h64 : All64 t) : OkS f ⟨t, [], []⟩ :=
  ⟨h, h64, by simp, (fun a p h => by cases h), (fun a h => by cases h), by simp⟩
/-- what a carried word leaves, all in one -/
theorem carried {f t : List Nat} {was : List Ob} {wd q : Nat} {st : CS} (hO : ObsOf t was) (ht4 : t.length ≤ 4000) (f64 : All64 f) (t64 : All64 t) (hwd : wd < 18446744073709551616) (e : carW f 40 wd ⟨t, [], []⟩ = some (q, st)) :
    okR (wd : Int) = true ∧ relP st.cp wd q ∧ OkS f st ∧ q < 18446744073709551616 ∧ ∃ more, ObsOf st.to (was ++ more) ∧ more.length = st.cp.length ∧ CpOk f (was ++ more) st.cp := by
  have hc0 : ClosedS f ⟨t, [], []⟩ := fun b hb => absurd rfl hb
  have hk0 := okS_start (f := f) ht4 t64
  obtain ⟨_, hr, hi⟩ := carW_inv (was := was) f64 40 wd _ q st hwd hk0 hc0 e
  obtain ⟨more, H⟩ := hi [] (inv_start hO)
  rw [List.nil_append] at H
  have hl := carW_left 40 wd _ q st e
  obtain ⟨hok, hq⟩ := carW_ok f64 40 wd _ q st hwd hk0 e
  refine ⟨hl.ok, hr, hok, hq, more, H.obs, H.len, H.copy, H.inj, fun a pl h p hp => ((hl.closed hc0) a (by unfold Has; rw [h]; simp) p hp).1⟩
set_option maxHeartbeats 4000000 in
set_option maxRecDepth 100000 in
theorem carryShares_go (fA tA : Option Addr) (fc tc : Nat) (f t : List Nat) (wd : Nat) (w : World) (hF : Su w (.slice fA f.length fc) f) (hT : Su w (.slice tA t.length tc) t) (f64 : All64 f) (t64 : All64 t) (hfl : f.length ≤ 17592186044416) (htl : t.length ≤ 17592186044416) (hwd : wd < 18446744073709551616) :
    Calls Try.prog 6 #[.slice fA f.length fc, .slice tA t.length tc, .int .u64 (wd : Int)] w fun e w' => e = .returned (.bool true) ∧ Below w.heap.size w w' := by
  have HF := Lib.hid hF
  have HT := Lib.hid hT
  have HF64 := Lib.hid f64
  have HT64 := Lib.hid t64
  have HWD := Lib.hid hwd
  clear hF hT f64 t64 hwd
  have hmm := @run_makeMap Try.prog
  go_enter Try.func6, Try.ntmps6
  go_wp2_with fail
  refine (over_any f t fA tA fc tc wd _ HF.out HT.out HF64.out HT64.out hfl htl HWD.out).mono ?_
  rintro e w1 (⟨-, x, hx, rfl, hb⟩ | ⟨⟨hf4, -⟩, ⟨ht4, was, hO⟩, q, st, hc, v1, v2, rfl, h1, h2, hb⟩)
  · have HB := Lib.hid hb
    have x0 : (x != 0) = true := by simpa using hx
    have x1 : (x == 0) = false := by simpa using hx
    clear hb
    go_wp2_with fail
    refine (carries_any _).mono ?_
    rintro e w2 ⟨rfl, hb2⟩
    have HB2 := Lib.hid (HB.out.trans (hb2.mono HB.out.size))
    clear hb2
    go_wp2_with fail
    refine (carries_any _).mono ?_
    rintro e w3 ⟨rfl, hb3⟩
    have HB3 := Lib.hid (HB2.out.trans (hb3.mono HB2.out.size))
    clear hb3
    go_wp2_with fail
    go_ret
    exact ⟨rfl, HB3.out⟩
  · obtain ⟨hok, hrel, hokS, hq, more, hobs, hlen, hcp⟩ := carried hO ht4 HF64.out HT64.out HWD.out hc
    have HC := Lib.hid hc
    have HO := Lib.hid hO
    have HOK := Lib.hid hok
    have HREL := Lib.hid hrel
    have HOKS := Lib.hid hokS
    have HQ := Lib.hid hq
    have HOBS := Lib.hid hobs
    have HLEN := Lib.hid hlen
    have HCP := Lib.hid hcp
    have HB := Lib.hid hb
    have H2 := Lib.hid (Su.of_own h2)
    have hto := hokS.room
    obtain ⟨A2, c2, rfl, _, _, _⟩ := own_any h2
    clear hc hO hok hrel hokS hq hobs hlen hcp h1 h2 hb
    go_wp2_with fail
    refine (carries_any _).mono ?_
    rintro e w2 ⟨rfl, hb2⟩
    have HB2 := Lib.hid hb2
    clear hb2
    go_wp2_with fail
    have HBM := Lib.hid (show Below w1.heap.size w1 (w2.alloc (.map #[] 0)) from HB2.out.trans (((Below.refl _ _).alloc (Nat.le_refl _) _).mono HB2.out.size))
    have HM0 := Lib.hid (show OwnMN (w2.alloc (.map #[] 0)) w2.heap.size 0 (lookI []) from OwnMN.made w2)
    refine (Objects_any st.to A2 c2 _ (H2.out.below HBM.out) HOKS.out.all (by omega)).mono ?_
    rintro e w3 (⟨-, l, hl, v3, C3, rfl, hrow, hb3⟩ | ⟨hno, -⟩)
    · obtain rfl := obs_inj HOBS.out hl
      have HB3 := Lib.hid hb3
      obtain ⟨A3, c3, rfl, _, _, _⟩ := own_any hrow.row
      clear hrow hb3 hl
      have hBB3 : Below w.heap.size w w3 := HB.out.trans ((HBM.out.trans (HB3.out.mono HBM.out.size)).mono HB.out.size)
      have HBB3 := Lib.hid hBB3
      clear hBB3
      go_wp2_with fail
      refine (Objects_any t tA tc _ (HT.out.below HBB3.out) HT64.out htl).mono ?_
      rintro e w4 (⟨-, l4, hl4, v4, C4, rfl, hrow4, hb4⟩ | ⟨hno, -⟩)
      · obtain rfl := obs_inj HO.out hl4
        have HB4 := Lib.hid hb4
        obtain ⟨A4, c4, rfl, _, _, _⟩ := own_any hrow4.row
        clear hrow4 hb4 hl4
        go_wp2_with fail
        refine (good_two 0 0 _ 2 w4.heap.size (by simp [go_sem]) (by simp [go_sem])).mono ?_
        rintro e w5 ⟨rfl, rfl⟩
        go_wp2_with fail
        obtain ⟨WA, hWA⟩ : ∃ WA, WA = w4.alloc (.cells #[.int .i64 0, .int .i64 0] 25) := ⟨_, rfl⟩
        have hzA : WA.heap.size = w4.heap.size + 1 := by rw [hWA]; simp
        have hBA : Below w4.heap.size w4 WA := by rw [hWA]; exact (Below.refl _ _).alloc (Nat.le_refl _) _
        rw [← hWA]
        have hAY : Below WA.heap.size WA ((WA.alloc (.cells #[.int .u64 ((wd : Nat) : Int)] 34)).alloc (.cells #[.int .u64 ((q : Nat) : Int)] 34)) := ((Below.refl _ _).alloc (Nat.le_refl _) _).alloc (by simp) _
        have h4Y : Below w4.heap.size w4 ((WA.alloc (.cells #[.int .u64 ((wd : Nat) : Int)] 34)).alloc (.cells #[.int .u64 ((q : Nat) : Int)] 34)) := hBA.trans (hAY.mono hBA.size)
        have h3Y := HB4.out.trans (h4Y.mono HB4.out.size)
        have h1Y := (HBM.out.trans (HB3.out.mono HBM.out.size)).trans (h3Y.mono (Nat.le_trans HBM.out.size HB3.out.size))
        have h0Y := HB.out.trans (h1Y.mono HB.out.size)
        have hSX := (Su.one' WA wd (w4.heap.size + 1) hzA).below (w' := (WA.alloc (.cells #[.int .u64 ((wd : Nat) : Int)] 34)).alloc (.cells #[.int .u64 ((q : Nat) : Int)] 34)) ((Below.refl _ _).alloc (Nat.le_refl _) _)
        have hSY := Su.one' (WA.alloc (.cells #[.int .u64 ((wd : Nat) : Int)] 34)) q (w4.heap.size + 1 + 1) (by simp [hzA])
        have hMY := (HM0.out.below HB3.out).below h3Y
        refine (alike_ok f st.to (was ++ more) st.cp fA A2 _ _ fc c2 1 1 wd q w2.heap.size _ (HF.out.below h0Y) (H2.out.below h1Y) hSX hSY HF64.out HOKS.out.all hf4 hto HOBS.out HCP.out HWD.out HOK.out HREL.out hMY).mono ?_
        rintro e w6 ⟨rfl, P, hinv, hM, hG⟩
        have hcnt := seen_count HC.out hinv
        rw [hcnt, ← HLEN.out] at hM
        have HM6 := Lib.hid hM
        have hlenM : ∀ ty, (Builtin.len_ #[55] ty #[.map (some w2.heap.size)]).run Try.prog w6 = .ok (.int .i64 ((more.length : Nat) : Int)) w6 := fun ty => HM6.out.len ty
        have HBF := Lib.hid (show Below w.heap.size w w6 from below_grown h0Y h0Y.size hG (fun g hg => by injection hg with hg; have h1 := HB.out.size; have h2 := HB2.out.size; omega))
        clear hcnt hinv hM hG hMY hSX hSY h0Y h1Y h3Y h4Y hAY hBA hzA
        go_wp2_with fail
        go_ret
        have hll : was.length + more.length ≤ 4000 := by
          have h1 := len_flatO (was ++ more)
          rw [← HOBS.out.1, List.length_append] at h1
          omega
        exact ⟨ret_bool (by simp; unfold wrap64; omega), HBF.out⟩
      · exact absurd ⟨ht4, _, HO.out⟩ hno
    · exact absurd ⟨hto, _, HOBS.out⟩ hno
set_option maxRecDepth 100000 in
theorem carryShares_walk {H : Type} {enc : TypeId × Value → H} (W : World) (base : Nat) (v0 v1 v2 : Value) {d0 d1 d2 : DataW H} {p0 p1 p2 : List MemPlace}
    (k0 : Value.okWide Try.prog W .any base 23 v0) (k1 : Value.okWide Try.prog W .any base 23 v1) (k2 : Value.okWide Try.prog W .any base 34 v2)
    (h0 : DataW.Trod enc Try.prog W 0 (fun _ => true) true 23 v0 d0 p0) (h1 : DataW.Trod enc Try.prog W 0 (fun _ => true) true 23 v1 d1 p1) (h2 : DataW.Trod enc Try.prog W 0 (fun _ => true) true 34 v2 d2 p2)
    (hz0 : ∀ k ∈ d0.weights Try.prog 23, k ≤ reachBytes) (hz1 : ∀ k ∈ d1.weights Try.prog 23, k ≤ reachBytes) :
    Calls Try.prog 6 #[v0, v1, v2] W fun e W' => e = .returned (.bool true) ∧ Below W.heap.size W W' := by
  obtain ⟨A, c, h, rfl, hS, h64, hlen⟩ := open_heap k0 h0 hz0
  obtain ⟨A', c', h', rfl, hS', h64', hlen'⟩ := open_heap k1 h1 hz1
  obtain ⟨a2, rfl, _, _, w1⟩ := open_int Try.underlying34 k2 h2
  simp [Lit.wf, IntKind.min, IntKind.max, IntKind.signed, IntKind.bits] at w1
  obtain ⟨x, rfl⟩ : ∃ x : Nat, a2 = x := ⟨a2.toNat, by omega⟩
  exact carryShares_go A A' c c' h h' x W hS hS' h64 h64' hlen hlen' (by omega)
end Go.Proofs.Ytmpeckjemgenbaa
