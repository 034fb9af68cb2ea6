/- Patterns against values: arms.literal and arms.bind. -/
import Derived.Test.YtjalgnpbdcefdaaPickBindP
import Derived.Test.YtjalgnpbdcefdaaPickTakeW
import Derived.Deep.RegionHeld3
namespace Go.Proofs.Ytjalgnpbdcefdaa
open Go.RowKit
set_option linter.unusedVariables false
theorem ret_b {a b : Bool} (h : a = b) : Ending.returned (.bool a) = .returned (.bool b) := by rw [h]
set_option maxRecDepth 100000 in
set_option maxHeartbeats 4000000 in
theorem literal_any (pk pm k m : Int) (ps s : ByteArray) (pn n pc c : Nat) (pA A : Option Addr) (pa a : Nat → VT) (w : World) :
    Calls Try.prog 54 #[.agg #[.int .i64 pk, .int .i64 pm, .string ps, .slice pA pn pc], .agg #[.int .i64 k, .int .i64 m, .string s, .slice A n c]] w fun e w' => e = .returned (.bool (litB (.node pk pm ps pn pa) (.node k m s n a))) ∧ Below w.heap.size w w' := by
  have HL := Lib.hid (show litB (.node pk pm ps pn pa) (.node k m s n a) = ((pk == 3 && (k == 2 && m == pm)) || (pk == 4 && (k == 3 && m == pm)) || (pk == 5 && (k == 4 && s.toList == ps.toList))) from rfl)
  rw [HL.out]
  have HB := Lib.hid (show ∀ o o', Below w.heap.size w ((w.alloc o).alloc o') from fun o o' => ((Below.refl _ _).alloc (Nat.le_refl _) _).alloc (by simp) _)
  clear HL
  by_cases h3 : pk = 3
  · subst h3
    obtain ⟨x, hx⟩ : ∃ x, (k == 2) = x := ⟨_, rfl⟩
    obtain ⟨y, hy⟩ : ∃ y, (m == pm) = y := ⟨_, rfl⟩
    rw [hx, hy]
    go_enter Try.func54, Try.ntmps54
    cases x
    · go_wp2_with fail
      go_ret
      exact ⟨ret_b (by simp), HB.out _ _⟩
    · go_wp2_with fail
      go_ret
      exact ⟨ret_b (by simp), HB.out _ _⟩
  · have e3 : (pk == 3) = false := by simpa using h3
    by_cases h4 : pk = 4
    · subst h4
      clear h3
      obtain ⟨x, hx⟩ : ∃ x, (k == 3) = x := ⟨_, rfl⟩
      obtain ⟨y, hy⟩ : ∃ y, (m == pm) = y := ⟨_, rfl⟩
      rw [hx, hy]
      clear e3
      go_enter Try.func54, Try.ntmps54
      cases x
      · go_wp2_with fail
        go_ret
        exact ⟨ret_b (by simp), HB.out _ _⟩
      · go_wp2_with fail
        go_ret
        exact ⟨ret_b (by simp), HB.out _ _⟩
    · have e4 : (pk == 4) = false := by simpa using h4
      by_cases h5 : pk = 5
      · subst h5
        clear h3 h4 e3 e4
        obtain ⟨x, hx⟩ : ∃ x, (k == 4) = x := ⟨_, rfl⟩
        obtain ⟨y, hy⟩ : ∃ y, (s.toList == ps.toList) = y := ⟨_, rfl⟩
        rw [hx, hy]
        go_enter Try.func54, Try.ntmps54
        cases x
        · go_wp2_with fail
          go_ret
          exact ⟨ret_b (by simp), HB.out _ _⟩
        · go_wp2_with fail
          go_ret
          exact ⟨ret_b (by simp), HB.out _ _⟩
      · have e5 : (pk == 5) = false := by simpa using h5
        rw [e3, e4, e5]
        clear h3 h4 h5
        go_enter Try.func54, Try.ntmps54
        go_wp2_with fail
        go_ret
        exact ⟨ret_b (by simp), HB.out _ _⟩
theorem infoW : (Try.prog.info? 27).map (fun i => (i.zero, i.size, i.bytes)) = some (some (.agg #[.int .i64 0, .int .i64 0, .string ⟨#[]⟩, .slice none 0 0]), 4, 56) := by kernel_rfl
def BindOk (p : VT) : Prop := ∀ (v : VT) (o : List VT) (ov : Value) (C : Nat → List Value) (B : Nat) (pcs vcs : List Value) (w : World), BRow w B ov o C → p.isV w (fun b => b < B) pcs → v.isV w (fun b => b < B) vcs → B ≤ w.heap.size →
  p.many ≤ 4194304 → v.many ≤ 4194304 → o.length + p.many ≤ 4194304 → Calls Try.prog 50 #[.agg pcs.toArray, .agg vcs.toArray, ov] w (BindPost p v o B ov.ownBlock w)
theorem grown_drew' {w w1 : World} {row : Option Nat} (h : w.grownBy w1 row) : w.grownBy w1.drew row := ⟨h.os, h.tape, h.output, h.size, h.block⟩
theorem cell_four_two (w : World) (o o' : Obj) (a b c d : Value) (t : TypeId) : ∀ j u, [a, b, c, d][j]? = some u → (((w.alloc o).alloc o').alloc (.cells #[a, b, c, d] t)).cell? ((⟨w.heap.size + 2, 0, none⟩ : Addr).add j) = some u := by
  intro j u hu
  have := cell_four_new ((w.alloc o).alloc o') a b c d t j u hu
  simpa using this
theorem bind_enters : Enters Try.prog 50 := fun _ _ => by kernel_rfl
theorem bindPost_one {p v : VT} {o : List VT} {B : Nat} {row : Option Nat} {w : World} {e : Ending} {w' : World} (h : BindPost p v o B row w e w') :
    ∃ x b, e = .returned (.tuple #[x, .bool b]) ∧ w.grownBy w' row ∧ ((b = false ∧ p.bind v o = none) ∨ (b = true ∧ ∃ o' C', p.bind v o = some o' ∧ BRow w' B x o' C' ∧ (x.ownBlock = row ∨ ∃ k, x.ownBlock = some k ∧ w.heap.size ≤ k))) := by
  rcases h with ⟨h1, x, rfl, hg⟩ | ⟨o', h1, x, C', rfl, hR, hg, hat⟩
  · exact ⟨x, false, rfl, hg, .inl ⟨rfl, h1⟩⟩
  · exact ⟨x, true, rfl, hg, .inr ⟨rfl, o', C', h1, hR, hat⟩⟩
set_option maxRecDepth 100000 in
set_option maxHeartbeats 8000000 in
theorem bind_any : ∀ p : VT, BindOk p := by
  intro p
  induction p with
  | none => intro v o ov C B pcs vcs w hR hp; exact hp.elim
  | node pk pm ps pn pa ih =>
    intro v o ov C B pcs vcs w hR hp hv hB hpm hvm hsz
    cases v with
    | none => exact hv.elim
    | node k m s n a =>
    have HP := Lib.hid hp
    have HV := Lib.hid hv
    have HR := Lib.hid hR
    have IH := Lib.hid ih
    have HPM := Lib.hid hpm
    have HVM := Lib.hid hvm
    have HSZ := Lib.hid hsz
    obtain ⟨pA, pc, rfl, hpnc, hpcm, hpA, _⟩ := hp
    obtain ⟨A, c, rfl, hnc, hcm, hA, _⟩ := hv
    obtain ⟨A0, c0, rfl, hc0, hc1, hA0⟩ := own_any hR.row
    obtain ⟨b0, hb0⟩ : ∃ b0, (Value.slice A0 o.length c0).ownBlock = b0 := ⟨_, rfl⟩
    rw [hb0]
    have HB0 := Lib.hid hb0
    have HBL := Lib.hid (show ∀ k, b0 = some k → B ≤ k ∧ k < w.heap.size from fun k hk => hR.row.lt k (hb0.trans hk))
    clear ih hpm hvm hsz hR hpA hA hA0 hb0
    by_cases h1 : pk = 1
    · subst h1
      have FIN := Lib.hid (show ∀ W', w.grownBy W' none → BindPost (.node 1 pm ps pn pa) (.node k m s n a) o B b0 w (.returned (.tuple #[.slice A0 o.length c0, .bool true])) W' from fun W' hg =>
        .inr ⟨o, by rw [bind_node]; simp, _, C, rfl, HR.out.grown hg (by simp), grown_step (grown_self w b0) hg (.inr (by simp)), .inl HB0.out⟩)
      go_enter Try.func50, Try.ntmps50
      go_wp2_with fail
      go_ret2
      exact FIN.out _ (grown_alloc (grown_alloc (grown_self _ _) _) _)
    · have e1 : (pk == 1) = false := by simpa using h1
      by_cases h2 : pk = 2
      · subst h2
        obtain ⟨i0, hi, jz0, jz1, jz2⟩ := info_parts infoW
        have hvcs : ∀ u ∈ [Value.int .i64 k, .int .i64 m, .string s, .slice A n c], u.oneCell' = true := isV_one HV.out
        have HVCS := Lib.hid hvcs
        have hol : o.length + 1 ≤ 4194304 := by have := HSZ.out; simp only [VT.many] at this; omega
        have FIN := Lib.hid (show ∀ W W' v', w.grownBy W none → W.grownBy W' b0 → W'.ownsRow B 27 4 v' (o.length + 1) (flatC C o.length ++ [.int .i64 k, .int .i64 m, .string s, .slice A n c]) → (v'.ownBlock = b0 ∨ v'.ownBlock = some W.heap.size) →
            BindPost (.node 2 pm ps pn pa) (.node k m s n a) o B b0 w (.returned (.tuple #[v', .bool true])) W' from fun W W' v' hg1 hg2 hO hat => by
          have hR1 : BRow W B (.slice A0 o.length c0) o C := HR.out.grown hg1 (by simp)
          have hs := hg1.size
          refine .inr ⟨o ++ [.node k m s n a], by rw [bind_node]; simp, v', _, rfl, hR1.snoc _ _ rfl (by rw [HB0.out]; exact hg2) hO (isV_grown HV.out hg1 (fun b hb _ => ⟨by simp, hb⟩)), grown_step (grown_step (grown_self w b0) hg1 (.inr (by simp))) hg2 (.inl rfl), ?_⟩
          rcases hat with e | e
          · exact .inl e
          · exact .inr ⟨_, e, hs⟩)
        clear h1 e1 hvcs
        go_enter Try.func50, Try.ntmps50
        go_wp2_with (at_builtin; go_loud (refine wpList_append_own_at _ rfl _ _ 25 rfl B 27 i0 _ 4 56 Try.underlying25 hi jz0 jz1 jz2 rfl (by omega) (.slice A0 o.length c0) o.length (flatC C o.length) rfl (((HR.out.row.alloc _).alloc _).alloc _) ⟨w.heap.size + 2, 0, none⟩ 1 1 [.int .i64 k, .int .i64 m, .string s, .slice A n c] rfl rfl (cell_four_two _ _ _ _ _ _ _ _) HVCS.out (by unfold maxLen; omega) (by omega) (by simp; omega) ?_; intro v2 w2 hown2 hgrow2 _ hat2; rw [HB0.out] at hgrow2 hat2; have HO2 := Lib.hid hown2; have HG2 := Lib.hid hgrow2; have HA2 := Lib.hid hat2; clear hown2 hgrow2 hat2))
        go_ret2
        exact FIN.out _ _ _ (grown_alloc (grown_alloc (grown_alloc (grown_self _ _) _) _) _) HG2.out HO2.out HA2.out
      · have e2 : (pk == 2) = false := by simpa using h2
        by_cases h6 : pk = 6
        · subst h6
          have HBN := Lib.hid (show (VT.node 6 pm ps pn pa).bind (.node k m s n a) o = if k = 5 ∧ s.toList = ps.toList ∧ n = pn then bindTo (fun i => (pa i).bind (a i)) pn o else none by rw [bind_node]; simp)
          have FIN := Lib.hid (show ∀ W' x, w.grownBy W' b0 → (VT.node 6 pm ps pn pa).bind (.node k m s n a) o = none → BindPost (.node 6 pm ps pn pa) (.node k m s n a) o B b0 w (.returned (.tuple #[x, .bool false])) W' from fun W' x hg hn => .inl ⟨hn, x, rfl, hg⟩)
          clear h1 h2 e1 e2
          by_cases g1 : k = 5
          rotate_left
          · have f1 : (k != 5) = true := by simpa using g1
            have G1 := Lib.hid g1
            clear g1
            go_enter Try.func50, Try.ntmps50
            go_wp2_with fail
            go_ret2
            exact FIN.out _ _ (grown_alloc (grown_alloc (grown_self _ _) _) _) (by rw [HBN.out, if_neg (fun h => G1.out h.1)])
          by_cases g2 : s.toList = ps.toList
          rotate_left
          · have f1 : (k != 5) = false := by simpa using g1
            have f2 : (s.toList != ps.toList) = true := by simpa using g2
            have f3 : (s.toList == ps.toList) = false := by simpa using g2
            have G2 := Lib.hid g2
            clear g1 g2
            go_enter Try.func50, Try.ntmps50
            go_wp2_with fail
            go_ret2
            exact FIN.out _ _ (grown_alloc (grown_alloc (grown_self _ _) _) _) (by rw [HBN.out, if_neg (fun h => G2.out h.2.1)])
          by_cases g3 : n = pn
          rotate_left
          · have f1 : (k != 5) = false := by simpa using g1
            have f2 : (s.toList != ps.toList) = false := by simpa using g2
            have f3 : (s.toList == ps.toList) = true := by simpa using g2
            have f4 : ((n : Int) != (pn : Int)) = true := by simp; omega
            have G3 := Lib.hid g3
            clear g1 g2 g3
            go_enter Try.func50, Try.ntmps50
            go_wp2_with fail
            go_ret2
            exact FIN.out _ _ (grown_alloc (grown_alloc (grown_self _ _) _) _) (by rw [HBN.out, if_neg (fun h => G3.out h.2.2)])
          subst g1 g3
          have f2 : (s.toList != ps.toList) = false := by simpa using g2
          have f3 : (s.toList == ps.toList) = true := by simpa using g2
          have HBT := Lib.hid (HBN.out.trans (if_pos ⟨rfl, g2, rfl⟩))
          clear HBN g2
          have FINY := Lib.hid (show ∀ W' x o' C', w.grownBy W' b0 → (VT.node 6 pm ps n pa).bind (.node 5 m s n a) o = some o' → BRow W' B x o' C' → (x.ownBlock = b0 ∨ ∃ k, x.ownBlock = some k ∧ w.heap.size ≤ k) → BindPost (.node 6 pm ps n pa) (.node 5 m s n a) o B b0 w (.returned (.tuple #[x, .bool true])) W' from fun W' x o' C' hg hn hR hat => .inr ⟨o', hn, x, C', rfl, hR, hg, hat⟩)
          go_enter Try.func50, Try.ntmps50
          go_wp2_with fail
          go_loopw [2, 8, 9, 10, 46] (fun ov2 _ _ _ i wr => ∃ (q : Nat) (o2 : List VT) (C2 : Nat → List Value), q ≤ n ∧ i = .int .i64 (q : Int) ∧ bindTo (fun i => (pa i).bind (a i)) q o = some o2 ∧ BRow wr B ov2 o2 C2 ∧ wr.cell? ⟨w.heap.size + 1, 3, none⟩ = some (.slice A n c) ∧ w.grownBy wr b0 ∧ (ov2.ownBlock = b0 ∨ ∃ k, ov2.ownBlock = some k ∧ w.heap.size + 2 ≤ k) ∧ w.heap.size + 2 ≤ wr.heap.size) (fun _ _ _ _ i _ => n - (intOf i).toNat)
          case atStart => exact ⟨0, o, C, Nat.zero_le _, rfl, rfl, HR.out.grown (grown_alloc (grown_alloc (grown_self _ none) _) _) (by simp), by simp, grown_alloc (grown_alloc (grown_self _ _) _) _, .inl HB0.out, by simp⟩
          case round =>
            obtain ⟨q, o2, C2, hq, rfl, hbt, hR2, hbox, hg2, hat2, hz⟩ := hrel
            have HT := Lib.hid hbt
            have HR2 := Lib.hid hR2
            have HG2 := Lib.hid hg2
            have HAT := Lib.hid hat2
            clear hbt hR2 hg2 hat2
            by_cases hlt : q < n
            rotate_left
            · obtain rfl : q = n := by omega
              go_wp2_with fail
              go_ret2
              refine FINY.out _ _ _ _ HG2.out (HBT.out.trans HT.out) HR2.out ?_
              rcases HAT.out with e | ⟨k, e, hk⟩
              · exact .inl e
              · exact .inr ⟨k, e, by omega⟩
            obtain ⟨pb, poff, rfl, hpb, hpS, PC, hPC⟩ := isV_arg HP.out (by omega)
            obtain ⟨vb, voff, rfl, hvb, hvS, VC, hVC⟩ := isV_arg HV.out (by omega)
            obtain ⟨hp1, hpcell⟩ := hPC q hlt
            obtain ⟨hv1, hvcell⟩ := hVC q hlt
            obtain ⟨k1, m1, s1, A1, n1, c1, hPq⟩ := isV_cells hp1
            obtain ⟨k2, m2, s2, A2, n2, c2, hVq⟩ := isV_cells hv1
            rw [hPq] at hpcell hp1
            rw [hVq] at hvcell hv1
            have hnb : ∀ b, b < B → some b ≠ b0 := fun b hb e => by have := (HBL.out b e.symm).1; omega
            have x0 : wr.cell? ⟨pb, poff + q * 4, none⟩ = some (.int .i64 k1) := (grown_cell HG2.out hpb (hnb _ hpS)).trans (hpcell 0 _ rfl)
            have x1 : wr.cell? ⟨pb, poff + q * 4 + 1, none⟩ = some (.int .i64 m1) := (grown_cell HG2.out hpb (hnb _ hpS)).trans (hpcell 1 _ rfl)
            have x2 : wr.cell? ⟨pb, poff + q * 4 + 2, none⟩ = some (.string s1) := (grown_cell HG2.out hpb (hnb _ hpS)).trans (hpcell 2 _ rfl)
            have x3 : wr.cell? ⟨pb, poff + q * 4 + 3, none⟩ = some (.slice A1 n1 c1) := (grown_cell HG2.out hpb (hnb _ hpS)).trans (hpcell 3 _ rfl)
            have z0 : wr.cell? ⟨vb, voff + q * 4, none⟩ = some (.int .i64 k2) := (grown_cell HG2.out hvb (hnb _ hvS)).trans (hvcell 0 _ rfl)
            have z1 : wr.cell? ⟨vb, voff + q * 4 + 1, none⟩ = some (.int .i64 m2) := (grown_cell HG2.out hvb (hnb _ hvS)).trans (hvcell 1 _ rfl)
            have z2 : wr.cell? ⟨vb, voff + q * 4 + 2, none⟩ = some (.string s2) := (grown_cell HG2.out hvb (hnb _ hvS)).trans (hvcell 2 _ rfl)
            have z3 : wr.cell? ⟨vb, voff + q * 4 + 3, none⟩ = some (.slice A2 n2 c2) := (grown_cell HG2.out hvb (hnb _ hvS)).trans (hvcell 3 _ rfl)
            have l1 : pb < wr.heap.size := by omega
            have l2 : vb < wr.heap.size := by omega
            have HNB := Lib.hid hnb
            have HBW := Lib.hid (show B ≤ wr.heap.size by omega)
            have HP1 := Lib.hid (show (pa q).isV wr (fun b => b < B) _ from isV_grown hp1 HG2.out (fun b hb _ => ⟨hnb b hb, hb⟩))
            have HV1 := Lib.hid (show (a q).isV wr (fun b => b < B) _ from isV_grown hv1 HG2.out (fun b hb _ => ⟨hnb b hb, hb⟩))
            obtain ⟨hpm, hvm, hol⟩ : (pa q).many ≤ 4194304 ∧ (a q).many ≤ 4194304 ∧ o2.length + (pa q).many ≤ 4194304 := by
              have h1 := HPM.out
              have h2 := HVM.out
              have h3 := HSZ.out
              simp only [VT.many] at h1 h2 h3
              have h4 := le_sumTo (g := fun i => (pa i).many) hlt
              have h5 := le_sumTo (g := fun i => (a i).many) hlt
              have h6 := bindTo_len (g := fun i => (pa i).names) (fun i _ o o' hh => bind_len (pa i) (a i) o o' hh) HT.out
              have h7 : sumTo (fun i => (pa i).names) q ≤ sumTo (fun i => (pa i).many) q := sumTo_le fun i _ => names_many _
              have h8 : sumTo (fun i => (pa i).many) (q + 1) ≤ sumTo (fun i => (pa i).many) n := sumTo_mono (by omega)
              simp only [sumTo] at h8
              refine ⟨by omega, by omega, by omega⟩
            have HC := Lib.hid (fun W hg => (IH.out q (a q) o2 u2 C2 B _ _ W (HR2.out.grown (row := none) hg (by simp)) (isV_grown HP1.out hg (fun b hb _ => ⟨by simp, hb⟩)) (isV_grown HV1.out hg (fun b hb _ => ⟨by simp, hb⟩)) (Nat.le_trans HBW.out hg.size) hpm hvm hol).mono (fun e w' h => bindPost_one h))
            clear hPC hVC hp1 hv1 hpcell hvcell hPq hVq hnb hpm hvm hol
            have HU := Lib.hid (show ∀ bb, (bb < B ∨ bb = w.heap.size + 1 ∨ bb = wr.heap.size) → some bb ≠ u2.ownBlock from fun bb hb e => by
              have h1 := HR2.out.row.lt bb e.symm
              rcases hb with h | rfl | rfl
              · omega
              · rcases HAT.out with e2 | ⟨k, e2, hk⟩
                · have := HBL.out (w.heap.size + 1) (e2.symm.trans e.symm)
                  omega
                · rw [e2] at e
                  injection e with e
                  omega
              · omega)
            obtain ⟨WA, hWA⟩ : ∃ WA, WA = wr.alloc (.cells #[.int .i64 k1, .int .i64 m1, .string s1, .slice A1 n1 c1] 24) := ⟨_, rfl⟩
            have GA := Lib.hid (show wr.grownBy WA none by rw [hWA]; exact grown_alloc (grown_self _ _) _)
            have hWs : WA.heap.size = wr.heap.size + 1 := by rw [hWA]; simp
            have y0 : WA.cell? ⟨wr.heap.size, 0, none⟩ = some (.int .i64 k1) := by rw [hWA]; simp
            have y1 : WA.cell? ⟨wr.heap.size, 1, none⟩ = some (.int .i64 m1) := by rw [hWA]; simp
            have y2 : WA.cell? ⟨wr.heap.size, 2, none⟩ = some (.string s1) := by rw [hWA]; simp
            have y3 : WA.cell? ⟨wr.heap.size, 3, none⟩ = some (.slice A1 n1 c1) := by rw [hWA]; simp
            have y4 : WA.cell? ⟨w.heap.size + 1, 3, none⟩ = some (.slice (some ⟨vb, voff, none⟩) n c) := (grown_cell GA.out (by omega) (by simp)).trans hbox
            have y5 : WA.cell? ⟨vb, voff + q * 4, none⟩ = some (.int .i64 k2) := (grown_cell GA.out l2 (by simp)).trans z0
            have y6 : WA.cell? ⟨vb, voff + q * 4 + 1, none⟩ = some (.int .i64 m2) := (grown_cell GA.out l2 (by simp)).trans z1
            have y7 : WA.cell? ⟨vb, voff + q * 4 + 2, none⟩ = some (.string s2) := (grown_cell GA.out l2 (by simp)).trans z2
            have y8 : WA.cell? ⟨vb, voff + q * 4 + 3, none⟩ = some (.slice A2 n2 c2) := (grown_cell GA.out l2 (by simp)).trans z3
            have j1 : (0 : Int) ≤ (q : Int) := by omega
            have j2 : (q : Int) < (n : Int) := by omega
            have HB1' := Lib.hid (show vb < WA.heap.size ∧ w.heap.size + 1 < WA.heap.size ∧ wr.heap.size < WA.heap.size ∧ vb < B from ⟨by omega, by omega, by omega, hvS⟩)
            go_wp2_with fail
            rw [← hWA]
            clear hWA
            go_region_held3 (fun W => W.cell? ⟨wr.heap.size, 0, none⟩ = some (.int .i64 k1) ∧ W.cell? ⟨wr.heap.size, 1, none⟩ = some (.int .i64 m1) ∧ W.cell? ⟨wr.heap.size, 2, none⟩ = some (.string s1) ∧ W.cell? ⟨wr.heap.size, 3, none⟩ = some (.slice A1 n1 c1) ∧ W.cell? ⟨w.heap.size + 1, 3, none⟩ = some (.slice (some ⟨vb, voff, none⟩) n c) ∧ W.cell? ⟨vb, voff + q * 4, none⟩ = some (.int .i64 k2) ∧ W.cell? ⟨vb, voff + q * 4 + 1, none⟩ = some (.int .i64 m2) ∧ W.cell? ⟨vb, voff + q * 4 + 2, none⟩ = some (.string s2) ∧ W.cell? ⟨vb, voff + q * 4 + 3, none⟩ = some (.slice A2 n2 c2))
              (first | exact ⟨y0, y1, y2, y3, y4, y5, y6, y7, y8⟩ | exact ⟨t0, t1, t2, t3, t4, t5, t6, t7, t8⟩ | go_keep)
              ((go_at_call 50; refine (HC.out _ (grown_drew' GA.out)).mono ?_; rintro e w5 ⟨x, b, rfl, hg5, hr5⟩; have F5 := Lib.hid (fun bb o (h1 : bb < WA.heap.size) (h2 : some bb ≠ u2.ownBlock) => grown_cell (w := WA.drew) (o := o) hg5 h1 h2); have t0 := (F5.out wr.heap.size 0 HB1'.out.2.2.1 (HU.out _ (.inr (.inr rfl)))).trans y0; have t1 := (F5.out wr.heap.size 1 HB1'.out.2.2.1 (HU.out _ (.inr (.inr rfl)))).trans y1; have t2 := (F5.out wr.heap.size 2 HB1'.out.2.2.1 (HU.out _ (.inr (.inr rfl)))).trans y2; have t3 := (F5.out wr.heap.size 3 HB1'.out.2.2.1 (HU.out _ (.inr (.inr rfl)))).trans y3; have t4 := (F5.out (w.heap.size + 1) 3 HB1'.out.2.1 (HU.out _ (.inr (.inl rfl)))).trans y4; have t5 := (F5.out vb _ HB1'.out.1 (HU.out _ (.inl HB1'.out.2.2.2))).trans y5; have t6 := (F5.out vb _ HB1'.out.1 (HU.out _ (.inl HB1'.out.2.2.2))).trans y6; have t7 := (F5.out vb _ HB1'.out.1 (HU.out _ (.inl HB1'.out.2.2.2))).trans y7; have t8 := (F5.out vb _ HB1'.out.1 (HU.out _ (.inl HB1'.out.2.2.2))).trans y8))
            have HT4 := Lib.hid t4
            have HG5 := Lib.hid (show wr.grownBy w5 u2.ownBlock from grown_step (grown_step (grown_self wr _) (grown_drew' GA.out) (.inr (by simp))) hg5 (.inl rfl))
            have HGW := Lib.hid (show w.grownBy w5 b0 from grown_step HG2.out HG5.out (by
              rcases HAT.out with e | ⟨k, e, hk⟩
              · exact .inl e
              · exact .inr (fun j hj => by rw [e] at hj; injection hj with hj; omega)))
            have hz5 : wr.heap.size + 1 ≤ w5.heap.size := by have := hg5.size; simp only [World.drew] at this; omega
            clear t0 t1 t2 t3 t4 t5 t6 t7 t8 y0 y1 y2 y3 y4 y5 y6 y7 y8 x0 x1 x2 x3 z0 z1 z2 z3 hg5
            rcases hr5 with ⟨rfl, hn⟩ | ⟨rfl, o', C', hs, hR5, hat5⟩
            · have HN := Lib.hid (show (VT.node 6 pm ps n pa).bind (.node 5 m s n a) o = none from HBT.out.trans (bindTo_none (a := q + 1) (by simp only [bindTo, HT.out]; exact hn) (by omega)))
              clear hn
              go_wp2_with fail
              go_ret2
              exact FIN.out _ _ HGW.out HN.out
            · have HN := Lib.hid (show bindTo (fun i => (pa i).bind (a i)) (q + 1) o = some o' by simp only [bindTo, HT.out]; exact hs)
              have HR5 := Lib.hid hR5
              have HA5 := Lib.hid hat5
              clear hs hR5 hat5
              go_wp2_with fail
              go_roundw
              case rel =>
                refine ⟨q + 1, o', C', by omega, by go_num, HN.out, HR5.out, HT4.out, HGW.out, ?_, by omega⟩
                rcases HA5.out with e | ⟨k, e, hk⟩
                · rw [e]; exact HAT.out
                · refine .inr ⟨k, e, ?_⟩
                  simp only [World.drew] at hk
                  omega
              case measure => simp [intOf]; omega
        · have e6 : (pk == 6) = false := by simpa using h6
          have HBN := Lib.hid (show (VT.node pk pm ps pn pa).bind (.node k m s n a) o = if litB (.node pk pm ps pn pa) (.node k m s n a) then some o else none by rw [bind_node]; simp [h1, h2, h6])
          have FIN := Lib.hid (show ∀ W', w.grownBy W' none → BindPost (.node pk pm ps pn pa) (.node k m s n a) o B b0 w (.returned (.tuple #[.slice A0 o.length c0, .bool (litB (.node pk pm ps pn pa) (.node k m s n a))])) W' from fun W' hg => by
            have hg' := grown_step (grown_self w b0) hg (.inr (by simp))
            cases e : litB (.node pk pm ps pn pa) (.node k m s n a) with
            | false => exact .inl ⟨by rw [HBN.out, e]; rfl, _, rfl, hg'⟩
            | true => exact .inr ⟨o, by rw [HBN.out, e]; rfl, _, C, rfl, HR.out.grown hg (by simp), hg', .inl HB0.out⟩)
          have HLA := Lib.hid (fun W => literal_any pk pm k m ps s pn n pc c pA A pa a W)
          obtain ⟨lb, hlb⟩ : ∃ lb, litB (.node pk pm ps pn pa) (.node k m s n a) = lb := ⟨_, rfl⟩
          rw [hlb] at FIN HLA
          clear h1 h2 h6 hlb HBN
          go_enter Try.func50, Try.ntmps50
          go_wp2_with fail
          refine (HLA.out _).mono ?_
          rintro e w1 ⟨rfl, hb1⟩
          have HB1 := Lib.hid hb1
          clear hb1
          go_wp2_with fail
          go_ret2
          exact FIN.out _ (grown_step (grown_alloc (grown_alloc (grown_self _ _) _) _) (grown_below (g := none) HB1.out) (.inr (by simp)))
end Go.Proofs.Ytjalgnpbdcefdaa
