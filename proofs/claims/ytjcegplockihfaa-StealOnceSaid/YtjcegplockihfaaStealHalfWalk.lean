/- The walk of the law StealHalf. -/
import Derived.Test.YtjcegplockihfaaStealSame
import Derived.Test.YtjcegplockihfaaStealOpen
import Derived.Deep.RegionHeld3
import Derived.Deep.AppendLies
namespace Go.Proofs.Ytjcegplockihfaa
open Go.RowKit Go.ChangeShapes Go.WideShapes
set_option linter.unusedVariables false
theorem sizeI (w : World) : (sizeOf (Try.prog.elem 52)).run Try.prog w = .ok 1 w := by kernel_rfl
theorem elemI : Try.prog.underlying 52 = some (.slice (Try.prog.elem 52)) := by kernel_rfl
/-- the rest of a slice of numbers, from h on -/
theorem cut_from (pb poff ll pc h : Nat) (hl : h ≤ ll) (hc : ll ≤ pc) : ∃ XA, (∀ w, (Instr.sliceAt 52 (.slice (some ⟨pb, poff, none⟩) ll pc) (some (.int .i64 (h : Int))) none none).run Try.prog w = .ok (.slice XA (ll - h) (pc - h)) w) ∧
    ∀ (w : World) (L : List Int), Rd w 1 (tmC (lst L)) (some ⟨pb, poff, none⟩) ll → Rd w 1 (tmC (lst (L.drop h))) XA (ll - h) := by
  refine ⟨if pc = h then some ⟨pb, poff, none⟩ else some ⟨pb, poff + h, none⟩, fun w => ?_, fun w L hR h0 => ?_⟩
  · rw [run_sliceAt_slice _ _ _ _ _ _ elemI, run_slice_l _ _ _ _ _ elemI _ _ (by omega) (by omega), sizeI]
    simp only [Result.andThen, sliced, Int.toNat_natCast, Nat.mul_one, Option.map, Go.WideShapes.add_plain]
  · rw [if_neg (by omega)]
    obtain ⟨b1, o1, hA, hb1, hc1⟩ := hR (by omega)
    injection hA with hA
    injection hA with e1 e2
    subst e1 e2
    refine ⟨pb, poff + h, rfl, hb1, fun k hk j u hu => ?_⟩
    match j, hu with
    | 0, hu =>
      have := hc1 (h + k) (by omega) 0 _ rfl
      simp [tmC, lst] at hu
      subst hu
      simpa [lst, Nat.mul_one, Nat.add_assoc] using this
theorem equalI_true (A B : Option Addr) (n m c d : Nat) (T U : Nat → Int) (w : World) (hnm : n = m) (hn : n ≤ 9223372036854775807) (hT : Rd w 1 (tmC T) A n) (hU : Rd w 1 (tmC U) B m) (he : ∀ k, k < n → T k = U k) :
    Calls Try.prog 31 #[.slice A n c, .slice B m d] w fun e w' => e = .returned (.bool true) ∧ Below w.heap.size w w' := by
  subst hnm
  refine (equalI_any A B n c n d T U w hn hn hT hU).mono ?_
  rintro e w' ⟨rfl, q, rfl⟩
  refine ⟨ret_bool ?_, below_drewN (Below.refl _ _) _⟩
  rw [anyOf_false.2 (fun j hj => by simp [he j hj])]
  simp
theorem step_append_ints {ops : Array Oper} {o : Oper} {a : Act} {w : World} {K : Act → World → Prop} {Q : Exit → Act → World → Prop} {E : Prop} (hwt : Region.wanted o (yielded ops a.tmps) = true) (s x : Operand)
    (ho : o.op = .call { callee := .builtin .append, args := #[s, x], argTypes := #[52, 52] }) (base : Nat) (v : Value) (n : Nat) (l : List Int) (hs : a.eval s = v) (hown : w.ownsRow base 3 1 v n (encI l))
    (H : Nat) (hH : w.heap.size = H) (y : Int) (p : Nat) (hx : a.eval x = .slice (some ⟨p, 0, none⟩) 1 1) (hp : w.cell? ⟨p, 0, none⟩ = some (.int .i64 y)) (hl : n ≤ 17592186044415) (hbase : base ≤ w.heap.size)
    (h : ∀ g cap w', w'.ownsRow base 3 1 (.slice (some ⟨g, 0, none⟩) (n + 1) cap) (n + 1) (encI (l ++ [y])) → w.grownBy w' v.ownBlock → K (a.put o.dst (.slice (some ⟨g, 0, none⟩) (n + 1) cap)) w') :
    if Region.wanted o (yielded ops a.tmps) = true then Oper.wp Try.prog o a w K Q else E := by
  obtain ⟨i0, hi, hz0, hz1, hz2⟩ := info_parts infoI
  rw [if_pos hwt]
  refine wp_append_lies w s x 52 ho base 3 i0 (.int .i64 0) 1 8 Try.underlying52 hi hz0 hz1 hz2 rfl (by decide) v n (encI l) hs hown ⟨p, 0, none⟩ 1 1 [.int .i64 y] hx rfl ?_ ?_ (by decide) (by unfold maxLen; omega) (by omega) hbase H hH ?_
  · intro j u hu
    match j, hu with
    | 0, hu => simp at hu; subst hu; rw [Go.WideShapes.add_plain]; exact hp
  · intro u hu; simp at hu; subst hu; rfl
  · intro g cap w' h1 h2 h3 h4
    refine h g cap w' ?_ h2
    rw [show encI (l ++ [y]) = encI l ++ [.int .i64 y] by simp [encI]]
    exact h1
theorem steal_lists {l : List Int} {h : Nat} (h1 : 1 ≤ h) (h2 : h ≤ l.length) : (l.take h).dropLast ++ [lst (l.take h) ((l.take h).length - 1)] = l.take h := by
  have hne : l.take h ≠ [] := by intro e; have := congrArg List.length e; rw [List.length_take, List.length_nil] at this; omega
  have hp : 0 < (l.take h).length := List.length_pos_iff.2 hne
  rw [last_of hp]
  exact List.dropLast_concat_getLast hne
set_option maxRecDepth 100000 in
set_option maxHeartbeats 4000000 in
theorem stealHalf_go (A : Option Addr) (n c : Nat) (Q : Nat → List Int) (S : Nat → Prop) (cpu : Int) (w : World) (hn : n ≤ c) (hc : c ≤ 9223372036854775807) (hR : RdLs w S A n Q) (hwf : WfQ Q n) :
    Calls Try.prog 12 #[.slice A n c, .int .i64 cpu] w fun e w' => e = .returned (.bool true) ∧ Below w.heap.size w w' := by
  have HR := Lib.hid hR
  have HWF := Lib.hid hwf
  clear hR hwf
  by_cases ok : OkLs Q n
  rotate_left
  · have HK := Lib.hid ok
    clear ok
    go_enter Try.func12, Try.ntmps12
    go_wp2_with fail
    refine (steals_any _).mono ?_
    rintro e w1 ⟨rfl, hb1⟩
    have HB1 := Lib.hid hb1
    clear hb1
    go_wp2_with fail
    refine (checkS_any A n c Q S _ hn hc (HR.out.below HB1.out) HWF.out).mono ?_
    rintro e w2 ⟨x, rfl, hx, hb⟩
    have hx' : x ≠ 0 := fun h => HK.out (hx.1 h)
    have hx0 : (x != 0) = true := by simpa using hx'
    have HB2 := Lib.hid (HB1.out.trans (hb.mono HB1.out.size))
    clear hx hb hx'
    go_wp2_with fail
    refine (steals_any _).mono ?_
    rintro e w3 ⟨rfl, hb3⟩
    have HB3 := Lib.hid (HB2.out.trans (hb3.mono HB2.out.size))
    clear hb3
    go_wp2_with fail
    go_ret
    exact ⟨rfl, HB3.out⟩
  have HK := Lib.hid ok
  clear ok
  by_cases hcp : 0 ≤ cpu ∧ cpu < n
  rotate_left
  · have hq : cpu < 0 ∨ (n : Int) ≤ cpu := by omega
    clear hcp
    by_cases q0 : cpu < 0
    · have e0 : decide (cpu < 0) = true := by simpa using q0
      go_enter Try.func12, Try.ntmps12
      go_wp2_with fail
      refine (steals_any _).mono ?_
      rintro e w1 ⟨rfl, hb1⟩
      have HB1 := Lib.hid hb1
      clear hb1
      go_wp2_with fail
      refine (checkS_any A n c Q S _ hn hc (HR.out.below HB1.out) HWF.out).mono ?_
      rintro e w2 ⟨x, rfl, hx, hb⟩
      obtain rfl : x = 0 := hx.2 HK.out
      have HB2 := Lib.hid (HB1.out.trans (hb.mono HB1.out.size))
      clear hx hb
      go_wp2_with fail
      refine (steals_any _).mono ?_
      rintro e w3 ⟨rfl, hb3⟩
      have HB3 := Lib.hid (HB2.out.trans (hb3.mono HB2.out.size))
      clear hb3
      go_wp2_with fail
      go_ret
      exact ⟨rfl, HB3.out⟩
    · have e0 : decide (cpu < 0) = false := by simpa using q0
      have e1 : decide ((n : Int) ≤ cpu) = true := by simp; omega
      go_enter Try.func12, Try.ntmps12
      go_wp2_with fail
      refine (steals_any _).mono ?_
      rintro e w1 ⟨rfl, hb1⟩
      have HB1 := Lib.hid hb1
      clear hb1
      go_wp2_with fail
      refine (checkS_any A n c Q S _ hn hc (HR.out.below HB1.out) HWF.out).mono ?_
      rintro e w2 ⟨x, rfl, hx, hb⟩
      obtain rfl : x = 0 := hx.2 HK.out
      have HB2 := Lib.hid (HB1.out.trans (hb.mono HB1.out.size))
      clear hx hb
      go_wp2_with fail
      refine (steals_any _).mono ?_
      rintro e w3 ⟨rfl, hb3⟩
      have HB3 := Lib.hid (HB2.out.trans (hb3.mono HB2.out.size))
      clear hb3
      go_wp2_with fail
      go_ret
      exact ⟨rfl, HB3.out⟩
  obtain ⟨cp, rfl⟩ : ∃ cp : Nat, cpu = cp := ⟨cpu.toNat, by omega⟩
  have hcn : cp < n := by omega
  have e0 : decide ((cp : Int) < 0) = false := by simp
  have e1 : decide ((n : Int) ≤ (cp : Int)) = false := by simp; omega
  have e1' : decide (n ≤ cp) = false := by simp; omega
  clear hcp
  obtain ⟨b, off, rfl, hb, hSb, hcell⟩ := HR.out (by omega)
  have HCELL := Lib.hid hcell
  obtain ⟨qA, qc, hc0, hq1, hq2, hq3, hq4⟩ := hcell cp hcn
  have HC0 := Lib.hid hc0
  have j0 : (0 : Int) ≤ (cp : Int) := by omega
  have j1 : (cp : Int) < (n : Int) := by omega
  clear hcell hc0 hq3 hq4
  by_cases hpos : 0 < (Q cp).length
  · have e2 : decide (0 < (Q cp).length) = true := by simpa using hpos
    have e3 : decide ((0 : Int) < ((Q cp).length : Int)) = true := by simp; omega
    go_enter Try.func12, Try.ntmps12
    go_wp2_with fail
    refine (steals_any _).mono ?_
    rintro e w1 ⟨rfl, hb1⟩
    have HB1 := Lib.hid hb1
    clear hb1
    go_wp2_with fail
    refine (checkS_any _ n c Q S _ hn hc (HR.out.below HB1.out) HWF.out).mono ?_
    rintro e w2 ⟨x, rfl, hx, hb2⟩
    obtain rfl : x = 0 := hx.2 HK.out
    have HB2 := Lib.hid (HB1.out.trans (hb2.mono HB1.out.size))
    have c0 := (HB2.out.cell (p := ⟨b, off + cp, none⟩) hb).trans HC0.out
    clear hx hb2
    go_wp2_with fail
    refine (steals_any _).mono ?_
    rintro e w3 ⟨rfl, hb3⟩
    have HB3 := Lib.hid (HB2.out.trans (hb3.mono HB2.out.size))
    clear hb3
    go_wp2_with fail
    go_ret
    exact ⟨rfl, HB3.out⟩
  have e2 : decide (0 < (Q cp).length) = false := by simp; exact List.eq_nil_of_length_eq_zero (by omega)
  have e3 : decide ((0 : Int) < ((Q cp).length : Int)) = false := by simp; exact List.eq_nil_of_length_eq_zero (by omega)
  have HZ := Lib.hid (show (Q cp).length = 0 by omega)
  clear hpos
  go_enter Try.func12, Try.ntmps12
  go_wp2_with fail
  refine (steals_any _).mono ?_
  rintro e w1 ⟨rfl, hb1⟩
  have HB1 := Lib.hid hb1
  clear hb1
  go_wp2_with fail
  refine (checkS_any _ n c Q S _ hn hc (HR.out.below HB1.out) HWF.out).mono ?_
  rintro e w2 ⟨x, rfl, hx, hb2⟩
  obtain rfl : x = 0 := hx.2 HK.out
  have HB2 := Lib.hid (HB1.out.trans (hb2.mono HB1.out.size))
  have c0 := (HB2.out.cell (p := ⟨b, off + cp, none⟩) hb).trans HC0.out
  clear hx hb2
  go_wp2_with fail
  refine (victim_ok _ n c cp Q S _ hn hc (HR.out.below HB2.out) HWF.out HK.out hcn).mono ?_
  rintro e w3 ⟨rfl, hb3⟩
  have HB3 := Lib.hid (HB2.out.trans (hb3.mono HB2.out.size))
  clear hb3 c0 e2 e3
  by_cases hvic : vic Q n cp (n - 1) = -1
  · have HVI := Lib.hid hvic
    rw [hvic]
    clear hvic
    go_wp2_with fail
    refine (pop_none _ n c cp Q S _ hn hc (HR.out.below HB3.out) HWF.out HK.out hcn HZ.out HVI.out).mono ?_
    rintro e w4 ⟨x, hx, rfl, hb4⟩
    have hx0 : (x != 0) = true := by simpa using hx
    have HB4 := Lib.hid (HB3.out.trans (hb4.mono HB3.out.size))
    clear hb4 hx
    go_wp2_with fail
    go_ret
    exact ⟨rfl, HB4.out⟩
  obtain ⟨vv, hvv, hvn, hvc, hvp⟩ := vic_some (Q := Q) (n := n) (cp := cp) (by omega) hcn hvic
  have HVI := Lib.hid hvv
  rw [hvv]
  clear hvic hvv
  go_wp2_with fail
  refine (pop_steal _ n c cp Q S _ hn hc (HR.out.below HB3.out) HWF.out HK.out hcn HZ.out vv HVI.out hvn hvc hvp).mono ?_
  rintro e w4 ⟨A4, c4, vs4, rfl, hO4, hb4⟩
  have HB4 := Lib.hid (HB3.out.trans (hb4.mono HB3.out.size))
  have hh1 : 1 ≤ ((Q vv).length + 1) / 2 := by omega
  have hh2 : ((Q vv).length + 1) / 2 ≤ (Q vv).length := by omega
  have hdiv : ((((Q vv).length : Int) + 1) / 2) = ((((Q vv).length + 1) / 2 : Nat) : Int) := by omega
  generalize hhd : ((Q vv).length + 1) / 2 = h at *
  clear hhd
  have HT := Lib.hid (steal_lists hh1 hh2)
  have hQcp : (upd (upd Q cp ((Q vv).take h)) vv ((Q vv).drop h)) cp = (Q vv).take h := by unfold upd; rw [if_neg (by omega), if_pos rfl]
  rw [hQcp] at hO4 ⊢
  have hq' : ∀ i, upd (upd (upd Q cp ((Q vv).take h)) vv ((Q vv).drop h)) cp ((Q vv).take h).dropLast i = if i = cp then ((Q vv).take h).dropLast else if i = vv then (Q vv).drop h else Q i := fun i => by
    unfold upd
    by_cases e : i = cp
    · simp [e]
    · by_cases e' : i = vv
      · simp [e', hvc]
      · simp [e, e']
  obtain ⟨g, cap, hv4, hg1, hg2, hcap, hcapm⟩ := own_form hO4.row (by omega)
  injection hv4 with e1 _ e3
  subst e1 e3
  obtain ⟨Af, cf, hvf, hf1, hf2, _⟩ := own_any (hO4.each vv hvn)
  obtain ⟨Ac, cc, hvcp, hc1, hc2, hc3⟩ := own_any (hO4.each cp hcn)
  have OF : OwnI w4 w3.heap.size (.slice Af ((Q vv).drop h).length cf) ((Q vv).drop h) := by
    have := hO4.each vv hvn
    rw [hvf] at this
    rw [hq' vv, if_neg hvc, if_pos rfl] at this
    exact this
  have OC : OwnI w4 w3.heap.size (.slice Ac ((Q vv).take h).dropLast.length cc) ((Q vv).take h).dropLast := by
    have := hO4.each cp hcn
    rw [hvcp] at this
    rw [hq' cp, if_pos rfl] at this
    exact this
  rw [hq' vv, if_neg hvc, if_pos rfl] at hvf hf1
  rw [hq' cp, if_pos rfl] at hvcp hc1 hc3
  have ca : w4.cell? ⟨g, vv, none⟩ = some (.slice Af ((Q vv).drop h).length cf) := by
    have := own_cellC hO4.row (vsC_len _) hvn (j := 0) (by omega)
    simp only [Nat.mul_one, Nat.add_zero] at this
    rw [this]; simp [vsC, hvf]
  have cb : w4.cell? ⟨g, cp, none⟩ = some (.slice Ac ((Q vv).take h).dropLast.length cc) := by
    have := own_cellC hO4.row (vsC_len _) hcn (j := 0) (by omega)
    simp only [Nat.mul_one, Nat.add_zero] at this
    rw [this]; simp [vsC, hvcp]
  obtain ⟨pA, pc, cl0, hp1, hp2, hp3, hp4⟩ := HCELL.out vv hvn
  obtain ⟨pb, poff, rfl, hpb, _, hpc⟩ := hp4 hvp
  have cl := (HB4.out.cell (p := ⟨b, off + vv, none⟩) hb).trans cl0
  have RL := Lib.hid (show Rd w4 1 (tmC (lst (Q vv))) (some ⟨pb, poff, none⟩) (Q vv).length from (((show RdI w S (some ⟨pb, poff, none⟩) (Q vv) from hp4).below HB4.out).rd))
  have OCH := Lib.hid OC
  have OFH := Lib.hid OF
  have HC3 := Lib.hid hc3
  have HQL := Lib.hid (HWF.out vv hvn).1
  have HLD := Lib.hid (show ((Q vv).drop h).length = (Q vv).length - h by rw [List.length_drop])
  have HLT := Lib.hid (show ((Q vv).take h).dropLast.length + 1 = h by rw [List.length_dropLast, List.length_take]; omega)
  clear hO4 hq' hQcp cl0 hp3 hp4 hpc OC OF hc3 hvf hvcp
  have f0 : (0 : Int) ≤ (vv : Int) := by omega
  have f1 : (vv : Int) < (n : Int) := by omega
  have f2 : decide ((vv : Int) < 0) = false := by simp
  have f3 : decide ((n : Int) ≤ (vv : Int)) = false := by simp; omega
  have f3' : decide (n ≤ vv) = false := by simp; omega
  have f4 : ((vv : Int) == (cp : Int)) = false := by simp; omega
  have f5 : ((n : Int) != (n : Int)) = false := by simp
  generalize hD0 : (Q vv).drop h = D at HLD OFH ca
  have HD := Lib.hid hD0.symm
  clear hD0
  generalize ((Q vv).take h).dropLast = T at *
  generalize lst ((Q vv).take h) (((Q vv).take h).length - 1) = t at *
  generalize hq : Q vv = L at *
  clear hq
  generalize hld : D.length = dl at *
  generalize hlt : T.length = tl at *
  generalize hll : L.length = ll at *
  have LD := Lib.hid hld
  have LT := Lib.hid hlt
  have LL := Lib.hid hll
  clear hld hlt hll
  have f6 : decide ((h : Int) < 1) = false := by simp; omega
  have f7 : decide ((ll : Int) < (h : Int)) = false := by simp; omega
  have f7' : decide (ll < h) = false := by simp; omega
  have f8 : (0 : Int) ≤ (h : Int) := by omega
  have f9 : (h : Int) ≤ (ll : Int) := by omega
  have f10 : (h : Int) ≤ (pc : Int) := by omega
  have hll : ll ≤ 17592186044416 := HQL.out
  go_wp2_with fail
  rw [hdiv]
  clear hdiv f2 f3 f3' f4 f5 f6 f7 f7' e0 e1 e1'
  have HG2 := Lib.hid hg2
  have HG3 := Lib.hid (Nat.lt_of_lt_of_le hb HB4.out.size)
  have NEQ1 := Lib.hid (show dl = ll - h from HLD.out)
  have BD1 := Lib.hid (show dl ≤ 9223372036854775807 by have := HLD.out; omega)
  have RF1 := Lib.hid (show Rd w4 1 (tmC (lst D)) Af dl by rw [← LD.out]; exact OwnI.rd OFH.out)
  have RC1 := Lib.hid (show Rd w4 1 (tmC (lst T)) Ac tl by rw [← LT.out]; exact OwnI.rd OCH.out)
  have NEQ2 := Lib.hid (show tl + 1 = h from HLT.out)
  have BD2 := Lib.hid (show tl + 1 ≤ 9223372036854775807 by have := HLT.out; omega)
  have htl : tl ≤ 17592186044415 := by have := HLT.out; omega
  have EQ1 : Hid (∀ k, k < dl → lst D k = lst (L.drop h) k) := Lib.hid (fun k hk => by rw [HD.out])
  have EQ2 : Hid (∀ k, k < tl + 1 → lst (T ++ [t]) k = lst (L.take h) k) := Lib.hid (fun k hk => by rw [HT.out])
  have LTT := Lib.hid (show (T ++ [t]).length = tl + 1 by rw [List.length_append, LT.out]; rfl)
  have RT1 := Lib.hid (show Rd w4 1 (tmC (lst (L.take h))) (some ⟨pb, poff, none⟩) h from (RL.out.take (by omega)).congr fun k hk => by unfold tmC lst; simp [hk])
  obtain ⟨XA, hcut, hcutR⟩ := cut_from pb poff ll pc h hh2 hp1
  have RD1 := Lib.hid (hcutR w4 L RL.out)
  clear hcutR
  go_region_held3 (fun w' => w'.cell? ⟨g, vv, none⟩ = some (.slice Af dl cf) ∧ w'.cell? ⟨g, cp, none⟩ = some (.slice Ac tl cc) ∧ w'.cell? ⟨b, off + vv, none⟩ = some (.slice (some ⟨pb, poff, none⟩) ll pc))
    (first | exact ⟨ca, cb, cl⟩ | exact ⟨ca5, cb5, cl5⟩ | exact ⟨ca6, cb6, cl6⟩ | exact ⟨ca7, cb7, cl7⟩ | exact ⟨ca8, cb8, cl8⟩ | go_keep)
    (first
      | (go_at_call_of 31 (Value.slice Af dl cf); refine (equalI_true _ _ _ _ _ _ (lst D) (lst (L.drop h)) _ NEQ1.out BD1.out (by exact RF1.out) (by exact RD1.out) EQ1.out).mono ?_; rintro e w5 ⟨rfl, hb5⟩; have hb5' := below_drew' hb5; have HB5 := Lib.hid hb5'; have ca5 := (hb5'.cell (p := ⟨g, vv, none⟩) HG2.out).trans ca; have cb5 := (hb5'.cell (p := ⟨g, cp, none⟩) HG2.out).trans cb; have cl5 := (hb5'.cell (p := ⟨b, off + vv, none⟩) HG3.out).trans cl; have hz5 := hb5'.size; clear hb5 hb5')
      | (go_at_call 32; refine (cloneInt Ac tl cc (tmC (lst T)) _ (by first | exact RC1.out.below HB5.out | exact (RC1.out.below HB5.out).alloc _) (tmC_len _) (tmC_one _) HC3.out (by omega)).mono ?_; rintro e w6 ⟨v6, rfl, hown6, hb6⟩; have HO6 := Lib.hid (show w6.ownsRow w5.heap.size 3 1 v6 tl (flatC (tmC (lst T)) tl) from own_mono hown6 (by simp)); have HB6 : Hid (Below w4.heap.size w4 w6) := Lib.hid (by first | exact HB5.out.trans (hb6.mono HB5.out.size) | exact (HB5.out.alloc HB5.out.size _).trans (hb6.mono (by simp; omega))); (try (have cn6 := Lib.hid (show w6.cell? ⟨w5.heap.size, 0, none⟩ = some (.int .i64 t) from (hb6.cell (p := ⟨w5.heap.size, 0, none⟩) (by simp)).trans (by simp [go_sem])))); have ca6 := (HB6.out.cell (p := ⟨g, vv, none⟩) HG2.out).trans ca; have cb6 := (HB6.out.cell (p := ⟨g, cp, none⟩) HG2.out).trans cb; have cl6 := (HB6.out.cell (p := ⟨b, off + vv, none⟩) HG3.out).trans cl; have hz6 : w5.heap.size ≤ w6.heap.size := (by have := hb6.size; (try simp at this); omega); clear hown6 hb6)
      | (refine step_append_ints (by rfl) _ _ (by rfl) w5.heap.size v6 tl T (by rfl) (by rw [← flatC_lst' LT.out]; exact HO6.out.alloc _) (w6.heap.size + 1) (by simp) t w6.heap.size (by rfl) (by simp [go_sem]) (by omega) (by simp; omega) ?_; intro g7 cap7 w7 hown7 hg7; have HO7 := Lib.hid hown7; have HB7 := Lib.hid (below_grown ((HB6.out.alloc (by omega) (.cells #[.int .i64 t] 3))) (by simp; omega) hg7 (fun k hk => by have := (HO6.out.lt k hk).1; omega)); have ca7 := (HB7.out.cell (p := ⟨g, vv, none⟩) HG2.out).trans ca; have cb7 := (HB7.out.cell (p := ⟨g, cp, none⟩) HG2.out).trans cb; have cl7 := (HB7.out.cell (p := ⟨b, off + vv, none⟩) HG3.out).trans cl; clear hown7 hg7)
      | (refine step_append_ints (by rfl) _ _ (by rfl) w5.heap.size v6 tl T (by rfl) (by rw [← flatC_lst' LT.out]; exact HO6.out) w6.heap.size (by rfl) t w5.heap.size (by rfl) cn6.out (by omega) (by omega) ?_; intro g7 cap7 w7 hown7 hg7; have HO7 := Lib.hid hown7; have HB7 := Lib.hid (below_grown HB6.out (by omega) hg7 (fun k hk => by have := (HO6.out.lt k hk).1; omega)); have ca7 := (HB7.out.cell (p := ⟨g, vv, none⟩) HG2.out).trans ca; have cb7 := (HB7.out.cell (p := ⟨g, cp, none⟩) HG2.out).trans cb; have cl7 := (HB7.out.cell (p := ⟨b, off + vv, none⟩) HG3.out).trans cl; clear hown7 hg7)
      | (go_at_call 31; refine (equalI_true _ _ _ _ _ _ (lst (T ++ [t])) (lst (L.take h)) _ NEQ2.out BD2.out (by exact Rd.of_own (tmC_len _) (by rw [flatC_lst' LTT.out]; exact HO7.out)) (by exact RT1.out.below HB7.out) EQ2.out).mono ?_; rintro e w8 ⟨rfl, hb8⟩; have HB8 := Lib.hid (HB7.out.trans (hb8.mono HB7.out.size)); have ca8 := (HB8.out.cell (p := ⟨g, vv, none⟩) HG2.out).trans ca; have cb8 := (HB8.out.cell (p := ⟨g, cp, none⟩) HG2.out).trans cb; have cl8 := (HB8.out.cell (p := ⟨b, off + vv, none⟩) HG3.out).trans cl; clear hb8))
  all_goals
    go_wp2_with fail
    go_ret
    exact ⟨rfl, HB4.out.trans (HB8.out.mono HB4.out.size)⟩
set_option maxRecDepth 100000 in
theorem stealHalf_walk {H : Type} {enc : TypeId × Value → H} (W : World) (base : Nat) (v0 v1 : Value) {d0 d1 : DataW H} {p0 p1 : List MemPlace}
    (k0 : Value.okWide Try.prog W .any base 63 v0) (k1 : Value.okWide Try.prog W .any base 3 v1)
    (h0 : DataW.Trod enc Try.prog W 0 (fun _ => true) true 63 v0 d0 p0) (h1 : DataW.Trod enc Try.prog W 0 (fun _ => true) true 3 v1 d1 p1) (hz : ∀ k ∈ d0.weights Try.prog 63, k ≤ reachBytes) :
    Calls Try.prog 12 #[v0, v1] W fun e W' => e = .returned (.bool true) ∧ Below W.heap.size W W' := by
  obtain ⟨A, n, c, Q, rfl, hnc, hcm, hA, hR, hwf⟩ := open_lines k0 h0 hz
  obtain ⟨a1, rfl, _, _, _⟩ := open_int Try.underlying3 k1 h1
  exact stealHalf_go A n c Q _ a1 W hnc hcm hR hwf
end Go.Proofs.Ytjcegplockihfaa
