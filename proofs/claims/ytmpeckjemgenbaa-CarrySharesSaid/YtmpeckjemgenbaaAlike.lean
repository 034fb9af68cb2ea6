/- roadref3.Alike where one heap's words were copied from the other's. -/
import Derived.Test.YtmpeckjemgenbaaAlikeP
import Derived.Test.YtmpeckjemgenbaaObjAt
import Derived.Test.YtmpeckjemgenbaaMapN
import Derived.Test.YtmpeckjemgenbaaQueueP
import Derived.Test.YtmpeckjemgenbaaTagRead
import Derived.Test.YtmpeckjemgenbaaCarryWord
import Derived.Test.YtmpeckjemgenbaaFlat
namespace Go.Proofs.Ytmpeckjemgenbaa
open Go.RowKit
set_option linter.unusedVariables false
theorem Su.map {w w' : World} {mb n : Nat} {g : Int → Option Int} {v : Value} {l : List Nat} (h : Su w v l) (hm : OwnMN w mb n g) (hg : w.grownBy w' (some mb)) : Su w' v l := by
  obtain ⟨A, c, e, h1, h2, h3, h4⟩ := h
  refine ⟨A, c, e, h1, h2, h3, fun h0 => ?_⟩
  obtain ⟨b, off, rfl, hb, hc⟩ := h4 h0
  obtain ⟨D, ⟨es, clock, hmb, _, _, _⟩, _, _⟩ := hm
  have hne : b ≠ mb := fun e => by
    subst e
    have := hc 0 h0 0 _ rfl
    simp [World.cell?, hmb] at this
  exact ⟨b, off, rfl, Nat.lt_of_lt_of_le hb hg.size, fun k hk j u hu => (grown_cell hg hb (fun e => hne (by injection e))).trans (hc k hk j u hu)⟩
def lenV : Value → Nat
  | .slice _ n _ => n
  | _ => 0
/-- the state of the comparison -/
structure AlkW (f : List Nat) (cp : List (Nat × Nat)) (wd mb bk base : Nat) (w wr : World) (v : Value) (P todo : List (Nat × Nat)) : Prop where
  inv : AlkInv f cp wd P todo
  q : QP wr base v todo
  m1 : OwnMN wr mb P.length (lookI P)
  m2 : OwnMN wr bk P.length (lookI (swp P))
  gr : w.grownBy wr (some mb)
  hs : base ≤ wr.heap.size
  few : todo.length ≤ 1 + 400 * P.length
theorem objAt_as (h : List Nat) (hA : Option Addr) (hc a L : Nat) (kd nm : Int) (tx : ByteArray) (ps : List Nat) (w : World) (hH : Su w (.slice hA h.length hc) h) (h64 : All64 h) (hlen : h.length ≤ 4000) (hr : ReadsOb h a) (ho : obR h a = ⟨kd, nm, tx, ps⟩) (hl : ps.length = L) :
    Calls Try.prog 36 #[.slice hA h.length hc, .int .i64 (a : Int)] w fun e w' => ∃ pA pc, e = .returned (.tuple #[.agg #[.int .i64 (a : Int), .int .i64 kd, .int .i64 nm, .string tx, .slice pA L pc], .bool true]) ∧ OwnU w' w.heap.size (.slice pA L pc) ps ∧ Below w.heap.size w w' := by
  refine (objAt_ok h hA hc a w hH h64 hlen hr).mono ?_
  rintro e w' ⟨pA, pc, he, hu, hb⟩
  have hp : paR h a = ps := congrArg Ob.parts ho
  have hk : (obR h a).kind = kd := congrArg Ob.kind ho
  have hn : (obR h a).num = nm := congrArg Ob.num ho
  have ht : (obR h a).text = tx := congrArg Ob.text ho
  rw [hp, hl] at he hu
  rw [hk, hn, ht] at he
  exact ⟨pA, pc, he, hu, hb⟩
theorem box_new (w : World) (a kd nm : Int) (tx : ByteArray) (v : Value) (t : TypeId) : BX (w.alloc (.cells #[.int .i64 a, .int .i64 kd, .int .i64 nm, .string tx, v] t)) w.heap.size a kd nm tx v := by
  constructor <;> simp [go_sem]
theorem AlkW.below {f : List Nat} {cp : List (Nat × Nat)} {wd mb bk base : Nat} {w wx wy : World} {v : Value} {P todo : List (Nat × Nat)} (h : AlkW f cp wd mb bk base w wx v P todo) (hb : Below wx.heap.size wx wy) : AlkW f cp wd mb bk base w wy v P todo :=
  ⟨h.inv, h.q.below hb, h.m1.below hb, h.m2.below hb, grown_step h.gr (grown_below (g := none) hb) (.inr (by simp)), Nat.le_trans h.hs hb.size, h.few⟩
theorem AlkW.cut {f : List Nat} {cp : List (Nat × Nat)} {wd mb bk base : Nat} {w wx : World} {v v' : Value} {P todo rest : List (Nat × Nat)} (h : AlkW f cp wd mb bk base w wx v P todo) (hi : AlkInv f cp wd P rest) (hq : QP wx base v' rest) (hle : rest.length < todo.length) : AlkW f cp wd mb bk base w wx v' P rest := ⟨hi, hq, h.m1, h.m2, h.gr, h.hs, by have := h.few; omega⟩
theorem alk_less {wx wy : World} {mb n r : Nat} {g g' : Int → Option Int} (h : OwnMN wx mb n g) (h' : OwnMN wy mb n g') : 1000 * (4000 - mapLen wy mb) + r < 1000 * (4000 - mapLen wx mb) + (r + 1) := by
  rw [h.cnt, h'.cnt]
  omega
set_option maxRecDepth 100000 in
set_option maxHeartbeats 8000000 in
theorem alike_ok (f b : List Nat) (l : List Ob) (cp : List (Nat × Nat)) (fA bA xA yA : Option Addr) (fc bc xc yc wd q0 mb : Nat) (w : World) (hF : Su w (.slice fA f.length fc) f) (hB : Su w (.slice bA b.length bc) b) (hX : Su w (.slice xA 1 xc) [wd]) (hY : Su w (.slice yA 1 yc) [q0])
    (f64 : All64 f) (b64 : All64 b) (hfl : f.length ≤ 4000) (hbl : b.length ≤ 4000) (hob : ObsOf b l) (C : CpOk f l cp) (hwd : wd < 18446744073709551616) (hok : okR (wd : Int) = true) (hrel : relP cp wd q0) (hM : OwnMN w mb 0 (lookI [])) :
    Calls Try.prog 23 #[.slice fA f.length fc, .slice bA b.length bc, .slice xA 1 xc, .slice yA 1 yc, .map (some mb)] w fun e w' => e = .returned (.bool true) ∧ ∃ P, AlkInv f cp wd P [] ∧ OwnMN w' mb P.length (lookI P) ∧ w.grownBy w' (some mb) := by
  have HF := Lib.hid hF
  have HBB := Lib.hid hB
  have HX := Lib.hid hX
  have HY := Lib.hid hY
  have HF64 := Lib.hid f64
  have HB64 := Lib.hid b64
  have HOB := Lib.hid hob
  have HC := Lib.hid C
  have HREL := Lib.hid hrel
  have HOK := Lib.hid hok
  have HM := Lib.hid hM
  have hmb := hM.lt
  clear hF hB hX hY f64 b64 hob C hok hrel hM
  have hmm := @run_makeMap Try.prog
  obtain ⟨D0, hD0, hD0s, hD0g⟩ := HM.out
  have HD0 := Lib.hid hD0
  have HD0S := Lib.hid hD0s
  clear hD0 hD0s hD0g
  go_enter Try.func23, Try.ntmps23
  go_wp2_with (first | (at_range; refine wpList_range_own _ rfl _ 55 rfl 3 3 lawI Try.underlying55 _ mb 0 D0 rfl (HD0.out.kept (World.grownBy_alloc w _ none) (by simp)) ?_; intro w0 hrg0 hg0 hs0; have HRG := Lib.hid hrg0; have HG0 := Lib.hid hg0; have HS0 := Lib.hid hs0; clear hrg0 hg0 hs0) | go_in)
  go_frame
  obtain ⟨bk, hbk⟩ : ∃ bk, w.heap.size = bk := ⟨_, rfl⟩
  have HBK := Lib.hid hbk
  have HM0 := Lib.hid (show OwnMN w0 mb 0 (lookI []) from (HM.out.kept (World.grownBy_alloc w _ none) (by simp)).kept HG0.out (by simp))
  have HK0 := Lib.hid (show OwnMN w0 bk 0 (lookI (swp [])) from by
    have := OwnMN.made w
    rw [HBK.out] at this
    exact this.kept HG0.out (by simp))
  have HW0 := Lib.hid (show Below w.heap.size w w0 from by
    have h1 : Below w.heap.size w (w.alloc (.map #[] 0)) := (Below.refl _ _).alloc (Nat.le_refl _) _
    exact below_grown h1 (by simp) HG0.out (fun g hg => by cases hg))
  have hs0 : (w.alloc (.map #[] 0)).heap.size + 1 = w0.heap.size := HS0.out.symm
  have hs1 : bk + 2 = w0.heap.size := by rw [← hs0, ← HBK.out]; simp
  clear hs0 hmm
  rw [hbk]
  clear hbk
  go_loopw [12, 13] (fun _ _ wr => wr = w0) (fun _ _ _ => 0)
  case atStart => rfl
  case round =>
    subst hrel
    have HRG' := Lib.hid (show wr.ranges Try.prog 3 (plainElem Try.prog 3) mb (w.alloc (.map #[] 0)).heap.size 0 D0 (Maps.has D0) 0 from by
      have h1 := HRG.out
      rw [HD0S.out] at h1
      exact h1)
    clear HRG
    go_wp2_with (first | (at_next; go_loud (refine wpList_next_ranges_ii _ rfl _ rfl 3 3 .i64 .i64 lawI Try.underlying3 Try.underlying3 mb (w.alloc (.map #[] 0)).heap.size 0 D0 _ 0 rfl HRG'.out ?_ ?_; all_goals first | (intro hc0 hl0; clear hc0 hl0) | (intro x c w1 cnt1 hwx hwc hlx hat hrg1 hlt; exact absurd hlt (Nat.not_lt_zero _)))) | go_in)
    obtain ⟨iP, hiP, hzP0, hzP1, hzP2⟩ := info_parts infoP
    obtain ⟨W1, hW1⟩ : ∃ W1 : World, W1 = wr := ⟨_, rfl⟩
    subst hW1
    obtain ⟨Bs, hBs⟩ : ∃ Bs, W1.heap.size = Bs := ⟨_, rfl⟩
    have hwB : w.heap.size ≤ Bs := by rw [← hBs]; exact HW0.out.size
    rw [hBs] at hs1
    have HBS := Lib.hid hBs
    clear hBs HG0 HS0 HRG' HD0 HD0S
    go_loopw [14, 15, 48] (fun x14 _ x48 wx => ∃ (i : Nat) (Av : Option Addr) (cv : Nat), i ≤ 1 ∧ x48 = .int .i64 i ∧ x14 = .slice Av i cv ∧ QP wx Bs (.slice Av i cv) ([(wd, q0)].take i) ∧ Below Bs W1 wx) (fun _ _ x _ => 1 - (intOf x).toNat)
    case atStart => exact ⟨0, none, 0, by omega, rfl, rfl, QP.nil _ _, by rw [← HBS.out]; exact Below.refl _ _⟩
    case round =>
      obtain ⟨i, Av, cv, hi, rfl, rfl, hQ, hB⟩ := hrel
      have HQ := Lib.hid hQ
      have HB := Lib.hid hB
      have hBz : Bs ≤ wr.heap.size := by have := hB.size; have := HBS.out; omega
      clear hQ hB
      rcases Nat.eq_zero_or_pos i with h0 | h0
      · subst h0
        obtain ⟨xA', xc', e, x1, x2, x3, x4⟩ := HX.out
        injection e with e1 e2 e3
        clear e2
        subst e1 e3
        obtain ⟨bX, oX, rfl, hbX, hcX⟩ := x4 (by simp)
        obtain ⟨yA', yc', e, y1, y2, y3, y4⟩ := HY.out
        injection e with e1 e2 e3
        clear e2
        subst e1 e3
        obtain ⟨bY, oY, rfl, hbY, hcY⟩ := y4 (by simp)
        have cX : wr.cell? ⟨bX, oX, none⟩ = some (.int .u64 (wd : Int)) := (HB.out.cell (p := ⟨bX, _, none⟩) (Nat.lt_of_lt_of_le hbX hwB)).trans ((HW0.out.cell (p := ⟨bX, _, none⟩) hbX).trans (by simpa [uC, nth] using hcX 0 (by simp) 0 _ rfl))
        have cY : wr.cell? ⟨bY, oY, none⟩ = some (.int .u64 (q0 : Int)) := (HB.out.cell (p := ⟨bY, _, none⟩) (Nat.lt_of_lt_of_le hbY hwB)).trans ((HW0.out.cell (p := ⟨bY, _, none⟩) hbY).trans (by simpa [uC, nth] using hcY 0 (by simp) 0 _ rfl))
        have HQA := Lib.hid (show ∀ o, QP (wr.alloc o).drew Bs (.slice Av 0 cv) [] from fun o => (show QP wr Bs (.slice Av 0 cv) [] from HQ.out).below (((Below.refl _ _).alloc (Nat.le_refl _) o).drew))
        clear hcX hcY x1 x2 x3 x4 y1 y2 y3 y4
        go_wp2_with fail
        go_region_law (refine step_append_q rfl _ _ 79 rfl Bs 81 iP _ 2 16 Try.underlying79 hiP hzP0 hzP1 hzP2 rfl (by omega) (.slice Av 0 cv) 0 [] (by simp [Act.eval]) (HQA.out _).1 wr.heap.size [.int .u64 (wd : Int), .int .u64 (q0 : Int)] (by simp [Act.eval]) rfl (fun j u hj => cell_newL wr _ _ _ rfl j u hj) (fun u hu => by simp at hu; rcases hu with rfl | rfl <;> rfl) (by unfold maxLen; omega) (by omega) (by simp; omega) ?_; intro v4 w4 hown4 hgrow4 hat4; have HO4 := Lib.hid hown4; have HG4 := Lib.hid hgrow4; have HA4 := Lib.hid hat4; clear hown4 hgrow4 hat4)
        all_goals
          try simp only [Act.put, List.getElem_toArray, List.getElem_cons_zero, List.getElem_cons_succ, List.setIfInBounds_toArray, List.set_cons_zero, List.set_cons_succ]
          go_wp2_with fail
          have hQ4 := (HQA.out _).snoc (p := (wd, q0)) HO4.out HG4.out HA4.out (by simp; omega)
          obtain ⟨A4, c4, rfl, _, _⟩ := hQ4.form
          have hb4 : Below Bs W1 w4 := below_grown (HB.out.trans (((Below.refl _ _).alloc (Nat.le_refl _) _).drew.mono hBz)) (by simp; omega) HG4.out (fun g hg => ((show QP wr Bs (.slice Av 0 cv) [] from HQ.out).2 g hg).1)
          exact ⟨⟨1, A4, c4, by omega, rfl, rfl, hQ4, hb4⟩, by simp [intOf]⟩
      · have hi1 : i = 1 := by omega
        have HQ1 := Lib.hid (show QP wr Bs (.slice Av ([(wd, q0)] : List (Nat × Nat)).length cv) [(wd, q0)] from by have := HQ.out; rw [hi1] at this; exact this)
        have HI1 := Lib.hid hi1
        clear hi1
        have HB' := Lib.hid (show Below W1.heap.size W1 wr by have := HB.out; rw [← HBS.out] at this; exact this)
        have HA0 := Lib.hid (show AlkW f cp wd mb bk Bs w wr (.slice Av ([(wd, q0)] : List (Nat × Nat)).length cv) [] [(wd, q0)] from
          ⟨AlkInv.init HOK.out HREL.out hwd, HQ1.out, HM0.out.below HB'.out, HK0.out.below HB'.out, grown_below (g := some mb) (HW0.out.trans (HB'.out.mono HW0.out.size)), hBz, by simp⟩)
        clear HB HB' HX HY HOK HREL HM0 HK0 HW0 HQ HQ1 hi
        go_wp2_with fail
        go_loopw [14, 16, 17, 18, 19, 20, 21, 22, 23, 24, 25, 26, 27, 28, 29] (fun x14 _ _ _ _ _ _ _ _ _ _ _ _ _ _ wx => ∃ (P todo : List (Nat × Nat)) (Av : Option Addr) (cv : Nat), x14 = .slice Av todo.length cv ∧ AlkW f cp wd mb bk Bs w wx (.slice Av todo.length cv) P todo) (fun x14 _ _ _ _ _ _ _ _ _ _ _ _ _ _ wx => 1000 * (4000 - mapLen wx mb) + lenV x14)
        case atStart => exact ⟨[], _, Av, cv, by rw [HI1.out]; rfl, HA0.out⟩
        case round =>
          obtain ⟨P, todo, Av, cv, rfl, hA⟩ := hrel
          have HA := Lib.hid hA
          clear hA
          cases todo with
          | nil =>
            go_wp2_with fail
            go_ret
            exact ⟨rfl, P, HA.out.inv, HA.out.m1, HA.out.gr⟩
          | cons pq rest =>
            obtain ⟨p, q⟩ := pq
            obtain ⟨bQ, oQ, rfl, hbQ, hbQ2, c0, c1, A2, hcut, hQ2, hown2⟩ := HA.out.q.head
            obtain ⟨hokp, hrelp, hp64⟩ := HA.out.inv.pair p q List.mem_cons_self
            have HW0 := Lib.hid (show ∀ o : Obj, Below wr.heap.size wr (wr.alloc o) from fun o => (Below.refl _ _).alloc (Nat.le_refl _) o)
            obtain ⟨r, hr⟩ : ∃ r, rest.length = r := ⟨_, rfl⟩
            have hcut1 : ∀ w', (Instr.sliceAt 79 (.slice (some ⟨bQ, oQ, none⟩) (r + 1) cv) (some (.int .i64 1)) none none).run Try.prog w' = .ok (.slice A2 r (cv - 1)) w' := fun w' => by
              have := hcut w'
              rw [List.length_cons, hr] at this
              exact this
            have HQ2 := Lib.hid hQ2
            have HO2 := Lib.hid hown2
            have HR := Lib.hid hr
            have hln : ((p, q) :: rest).length = r + 1 := by rw [List.length_cons, hr]
            rw [hln]
            have gn : (0 : Int) < (r : Int) + 1 := by omega
            clear hcut hQ2 hown2 hr hln
            by_cases ht : tagOf (p : Int) = 4
            · obtain ⟨n, hl, rfl⟩ := hrelp.1 ht
              have HL := Lib.hid hl
              have hcp := HC.out.copy _ _ hl
              have hn40 : n < b.length := by
                have h1 := hcp.lt
                rw [← HOB.out.1] at h1
                exact h1
              obtain ⟨hnm, hm60⟩ := okR_at hokp ht
              have HTP := Lib.hid (fun W => tread_ok (p : Int) W ⟨by omega, by omega⟩ hokp)
              obtain ⟨hw1, hw2⟩ := cw_word (p := n) (by omega)
              obtain ⟨k1, k2, k3, k4⟩ := okR_word hw2
              rw [hw1] at k1 k2 k3 k4
              have HTQ := Lib.hid (fun W => tread_ok ((cw n : Nat) : Int) W k4 k1)
              rw [ht, hnm] at HTP
              rw [k2, k3] at HTQ
              obtain ⟨m, hm⟩ : ∃ m, atOf p = m := ⟨_, rfl⟩
              obtain ⟨cn, hcn⟩ : ∃ cn, cw n = cn := ⟨_, rfl⟩
              rw [hcn] at HTQ c1 HA k2 k3 k4 k1 hw1
              have HCN := Lib.hid hcn
              have HMM := Lib.hid hm
              have HCP := Lib.hid hcp
              rw [hm] at HTP HL HCP hm60
              clear hcn hw1 hw2 k1 k2 k3 k4 hnm ht hokp hrelp hcp hl hm
              have HWM := Lib.hid (show Wf ((m : Nat) : Int) from Wf.of (by omega) (by omega))
              have HWN := Lib.hid (show Wf ((n : Nat) : Int) from Wf.of (by omega) (by omega))
              clear hm60
              by_cases hin : m ∈ P.map (·.1)
              · obtain ⟨l1, l2⟩ := HA.out.inv.look_seen HC.out HL.out hin
                have HINV := Lib.hid (HA.out.inv.seen (by rw [HMM.out]; exact hin))
                have look1 : (Instr.lookup 55 (.map (some mb)) (.int .i64 ((m : Nat) : Int)) true).run Try.prog (wr.alloc (.cells #[.int .u64 ((p : Nat) : Int), .int .u64 ((cn : Nat) : Int)] 81)) = .ok (.tuple #[.int .i64 ((n : Nat) : Int), .bool true]) (wr.alloc (.cells #[.int .u64 ((p : Nat) : Int), .int .u64 ((cn : Nat) : Int)] 81)) := by
                  have := (HA.out.m1.below (HW0.out (.cells #[.int .u64 ((p : Nat) : Int), .int .u64 ((cn : Nat) : Int)] 81))).look_ok HWM.out
                  rw [l1] at this
                  exact this
                have look2 : (Instr.lookup 55 (.map (some bk)) (.int .i64 ((n : Nat) : Int)) true).run Try.prog (wr.alloc (.cells #[.int .u64 ((p : Nat) : Int), .int .u64 ((cn : Nat) : Int)] 81)) = .ok (.tuple #[.int .i64 ((m : Nat) : Int), .bool true]) (wr.alloc (.cells #[.int .u64 ((p : Nat) : Int), .int .u64 ((cn : Nat) : Int)] 81)) := by
                  have := (HA.out.m2.below (HW0.out (.cells #[.int .u64 ((p : Nat) : Int), .int .u64 ((cn : Nat) : Int)] 81))).look_ok HWN.out
                  rw [l2] at this
                  exact this
                clear l1 l2 hin
                go_wp2_with fail
                refine (HTP.out _).mono ?_
                rintro e w1 ⟨rfl, rfl⟩
                go_wp2_with fail
                refine (HTQ.out _).mono ?_
                rintro e w1 ⟨rfl, rfl⟩
                go_wp2_with fail
                go_roundw
                case rel => exact ⟨P, rest, A2, cv - 1, by rw [HR.out], (HA.out.below (HW0.out _)).cut HINV.out (HQ2.out.below (HW0.out _)) (by simp)⟩
                case measure => exact alk_less HA.out.m1 (HA.out.m1.below (HW0.out _))
              · obtain ⟨l1, l2⟩ := HA.out.inv.look_new HC.out HL.out hin
                obtain ⟨OP, hOP⟩ : ∃ OP : Obj, OP = (.cells #[.int .u64 ((p : Nat) : Int), .int .u64 ((cn : Nat) : Int)] 81) := ⟨_, rfl⟩
                have look1 : (Instr.lookup 55 (.map (some mb)) (.int .i64 ((m : Nat) : Int)) true).run Try.prog (wr.alloc (.cells #[.int .u64 ((p : Nat) : Int), .int .u64 ((cn : Nat) : Int)] 81)) = .ok (.tuple #[.int .i64 0, .bool false]) (wr.alloc (.cells #[.int .u64 ((p : Nat) : Int), .int .u64 ((cn : Nat) : Int)] 81)) := by
                  have := (HA.out.m1.below (HW0.out (.cells #[.int .u64 ((p : Nat) : Int), .int .u64 ((cn : Nat) : Int)] 81))).look_ok HWM.out
                  rw [l1] at this
                  exact this
                have look2 : (Instr.lookup 55 (.map (some bk)) (.int .i64 ((n : Nat) : Int)) true).run Try.prog (wr.alloc (.cells #[.int .u64 ((p : Nat) : Int), .int .u64 ((cn : Nat) : Int)] 81)) = .ok (.tuple #[.int .i64 0, .bool false]) (wr.alloc (.cells #[.int .u64 ((p : Nat) : Int), .int .u64 ((cn : Nat) : Int)] 81)) := by
                  have := (HA.out.m2.below (HW0.out (.cells #[.int .u64 ((p : Nat) : Int), .int .u64 ((cn : Nat) : Int)] 81))).look_ok HWN.out
                  rw [l2] at this
                  exact this
                have HL1 := Lib.hid l1
                have HL2 := Lib.hid l2
                have HIN := Lib.hid hin
                have hPl : P.length < maxLen := by
                  have h1 := HA.out.inv.keys HC.out
                  unfold maxLen
                  omega
                have hr16 : r ≤ 1600000 := by
                  have h1 := HA.out.few
                  have h2 := HA.out.inv.keys HC.out
                  have h3 := HR.out
                  simp only [List.length_cons] at h1
                  omega
                have hrP : r ≤ 400 * P.length := by
                  have h1 := HA.out.few
                  have h3 := HR.out
                  simp only [List.length_cons] at h1
                  omega
                have HRP := Lib.hid hrP
                have HPL := Lib.hid hPl
                clear hrP
                have HMB := Lib.hid (show mb < bk from by rw [← HBK.out]; exact hmb)
                have HM5 := Lib.hid (HA.out.m1.below (HW0.out OP))
                have HK5 := Lib.hid (HA.out.m2.below (HW0.out OP))
                have HG5 := Lib.hid (grown_step HA.out.gr (grown_below (g := none) (HW0.out OP)) (.inr (by simp)))
                have HQ5 := Lib.hid (HQ2.out.below (HW0.out OP))
                have hz5 : wr.heap.size < (wr.alloc OP).heap.size := by simp
                rw [hOP] at HM5 HK5 HG5 HQ5 hz5
                clear l1 l2 hin hPl hOP
                go_wp2_with fail
                refine (HTP.out _).mono ?_
                rintro e w1 ⟨rfl, rfl⟩
                go_wp2_with fail
                refine (HTQ.out _).mono ?_
                rintro e w1 ⟨rfl, rfl⟩
                go_wp2_with (first | (at_mapUpdate; (refine wpList_store_N rfl _ _ _ rfl mb P.length (lookI P) rfl HM5.out HPL.out ((m : Nat) : Int) ((n : Nat) : Int) HL1.out rfl rfl HWM.out HWN.out ?_; intro w5 hM6 hg6; have HM6 := Lib.hid hM6; have HG6 := Lib.hid hg6; have HK6 := Lib.hid (HK5.out.kept hg6 (fun e => by injection e with e; have := HMB.out; omega)); clear hM6 hg6)) | (at_mapUpdate; go_loud (refine wpList_store_N rfl _ _ _ rfl bk P.length (lookI (swp P)) rfl HK6.out HPL.out ((n : Nat) : Int) ((m : Nat) : Int) HL2.out rfl rfl HWN.out HWM.out ?_; intro w6 hK7 hg7; have HK7 := Lib.hid hK7; have HG7 := Lib.hid hg7; have HM7 := Lib.hid (HM6.out.kept hg7 (fun e => by injection e with e; have := HMB.out; omega)); clear hK7 hg7)))
                have HG8 := Lib.hid (show w.grownBy w6 (some mb) from grown_step (grown_step HG5.out HG6.out (.inl rfl)) HG7.out (.inr (fun k hk => by injection hk with hk; have := HBK.out; omega)))
                have HQ8 := Lib.hid ((HQ5.out.grown HG6.out (fun k hk e => by injection e with e; have h1 := (HQ5.out.2 k hk).1; have h2 := HMB.out; omega)).grown HG7.out (fun k hk e => by injection e with e; have h1 := (HQ5.out.2 k hk).1; omega))
                have hz6 : Bs ≤ w6.heap.size := by have h1 := HG6.out.size; have h2 := HG7.out.size; omega
                have hzq : bQ < w6.heap.size := by have h1 := HG6.out.size; have h2 := HG7.out.size; omega
                have HSF := Lib.hid (HF.out.map HM.out HG8.out)
                have HSB := Lib.hid (HBB.out.map HM.out HG8.out)
                obtain ⟨lA, lB, ps, hl1, hl2, hl3, hl4⟩ := HCP.out.obj
                obtain ⟨hrB, hoB⟩ := obs_reads (h := b) (l := lA) (m := lB) (o := withParts (obR f m) ps) (by rw [← hl1]; exact HOB.out)
                rw [hl2] at hrB hoB
                obtain ⟨⟨kd, nm, tx, pp⟩, ho⟩ : ∃ o, obR f m = o := ⟨_, rfl⟩
                have hpp : paR f m = pp := congrArg Ob.parts ho
                rw [ho] at hoB
                obtain ⟨L, hL⟩ : ∃ L, pp.length = L := ⟨_, rfl⟩
                have hpsL : ps.length = L := by rw [hl3, hpp, hL]
                have hL400 : L ≤ 400 := by
                  have h1 := (okOb_iff.1 HCP.out.reads.2.2.1).2.2.2.1
                  rw [ho] at h1
                  have h2 := mostP_le kd
                  dsimp only at h1
                  omega
                have HAF := Lib.hid (objAt_as f fA fc m L kd nm tx pp w6 HSF.out HF64.out hfl HCP.out.reads ho hL)
                have HAB := Lib.hid (fun W (hW : Su W (.slice bA b.length bc) b) => objAt_as b bA bc n L kd nm tx ps W hW HB64.out hbl hrB hoB hpsL)
                have HNEW := Lib.hid (show AlkInv f cp wd ((m, n) :: P) (rest ++ zipP pp ps L) from by
                  have := HA.out.inv.new HC.out HF64.out (n := n) (by rw [HMM.out]; exact HL.out) (by rw [HMM.out]; exact HIN.out) ps (by rw [HMM.out]; exact hl3) (by rw [HMM.out]; exact hl4)
                  rw [HMM.out, hpp, hL] at this
                  exact this)
                have HPS := Lib.hid hpsL
                have HPP := Lib.hid hL
                clear hl1 hl2 hl3 hl4 hrB hoB ho hpp hL hpsL
                refine HAF.out.mono ?_
                rintro e w7 ⟨pA, pc, rfl, ho7, hb7⟩
                have HO7 := Lib.hid ho7
                have HB7 := Lib.hid hb7
                have HSB7 := Lib.hid (fun o : Obj => (HSB.out.below HB7.out).below ((Below.refl _ _).alloc (Nat.le_refl _) o))
                clear ho7 hb7
                go_wp2_with fail
                refine (HAB.out _ (HSB7.out _)).mono ?_
                rintro e w8 ⟨pB, pd, rfl, ho8, hb8⟩
                have HO8 := Lib.hid ho8
                have HB8 := Lib.hid hb8
                have HBX := Lib.hid ((box_new w7 m kd nm tx (.slice pA L pc) 30).of (fun o => HB8.out.cell (p := ⟨w7.heap.size, o, none⟩) (by simp)))
                obtain ⟨y0, y1, y2, y3, y4⟩ := HBX.out
                have hz78 : w7.heap.size < w8.heap.size := by have := HB8.out.size; simp at this; omega
                clear ho8 hb8
                go_wp2_with fail
                have hb9 : ∀ o : Obj, Below w6.heap.size w6 (w8.alloc o) := fun o => (HB7.out.trans (((Below.refl _ _).alloc (Nat.le_refl _) _).trans (HB8.out.mono (by simp)) |>.mono HB7.out.size)).trans (((Below.refl _ _).alloc (Nat.le_refl _) o).mono (by have h1 := HB7.out.size; omega))
                obtain ⟨W9, hW9⟩ : ∃ W9, W9 = w8.alloc (.cells #[.int .i64 ((n : Nat) : Int), .int .i64 kd, .int .i64 nm, .string tx, .slice pB L pd] 30) := ⟨_, rfl⟩
                have HB9 := Lib.hid (show Below w6.heap.size w6 W9 by rw [hW9]; exact hb9 _)
                have HB89 := Lib.hid (show Below w8.heap.size w8 W9 by rw [hW9]; exact (Below.refl _ _).alloc (Nat.le_refl _) _)
                have HX1 := Lib.hid (show BX W9 w7.heap.size m kd nm tx (.slice pA L pc) from HBX.out.of (fun o => HB89.out.cell (p := ⟨w7.heap.size, o, none⟩) hz78))
                have HX2 := Lib.hid (show BX W9 w8.heap.size n kd nm tx (.slice pB L pd) by rw [hW9]; exact box_new w8 n kd nm tx (.slice pB L pd) 30)
                have hz9 : w8.heap.size < W9.heap.size := by rw [hW9]; simp
                have hz67 : w6.heap.size ≤ w7.heap.size := HB7.out.size
                have HO7' := Lib.hid ((HO7.out.below (show Below w7.heap.size w7 (w7.alloc (.cells #[.int .i64 ((m : Nat) : Int), .int .i64 kd, .int .i64 nm, .string tx, .slice pA L pc] 30)) from (Below.refl _ _).alloc (Nat.le_refl _) _)).below HB8.out |>.below HB89.out)
                have HO8' := Lib.hid ((HO8.out.below HB89.out).mono (show w6.heap.size ≤ _ by simp; omega))
                have hlt7 := HO7.out.blk
                have hlt8 := HO8.out.blk
                rw [← hW9]
                clear hb9 hW9 HBX y0 y1 y2 y3 y4 HAF HAB HSB7
                obtain ⟨A7, c7, e7, u1, u2, u3, u4⟩ := Su.of_own HO7'.out
                injection e7 with e71 e7n e73
                obtain ⟨A8, c8, e8, v1, v2, v3, v4⟩ := Su.of_own HO8'.out
                injection e8 with e81 e8n e83
                subst e71 e73 e81 e83
                have HU4 := Lib.hid u4
                have HV4 := Lib.hid v4
                have HU7 := Lib.hid hlt7
                have HV7 := Lib.hid hlt8
                have hpl : pp.length = L := HPP.out
                have hql : ps.length = L := HPS.out
                have HPPL := Lib.hid hpl
                have HPSL := Lib.hid hql
                clear u1 u2 u3 u4 v1 v2 v3 v4 e7n e8n hlt7 hlt8 hpl hql
                go_loopw [14, 29, 197] (fun x14 _ x197 wx => ∃ (i : Nat) (Av' : Option Addr) (cv' : Nat), i ≤ L ∧ x197 = .int .i64 i ∧ x14 = .slice Av' (r + i) cv' ∧ QP wx Bs (.slice Av' (r + i) cv') (rest ++ zipP pp ps i) ∧ W9.grownBy wx (some bQ) ∧ (∀ k, (Value.slice Av' (r + i) cv').ownBlock = some k → k = bQ ∨ W9.heap.size ≤ k)) (fun _ _ x _ => L - (intOf x).toNat)
                case atStart =>
                  refine ⟨0, A2, cv - 1, Nat.zero_le _, rfl, rfl, ?_, grown_self _ _, fun k hk => .inl ?_⟩
                  · have := HQ8.out.below HB9.out
                    rw [HR.out] at this
                    simpa [zipP] using this
                  · have h1 := HO2.out
                    rw [HR.out] at h1
                    have h2 : (Value.slice A2 r (cv - 1)).ownBlock = some k := hk
                    rw [h1] at h2
                    injection h2 with h2
                    exact h2.symm
                case round =>
                  obtain ⟨i, Av', cv', hi, rfl, rfl, hQ, hG, hbl⟩ := hrel
                  have HQi := Lib.hid hQ
                  have HGi := Lib.hid hG
                  have HBi := Lib.hid hbl
                  have hszi := hG.size
                  clear hQ hG hbl
                  by_cases hlt : i < L
                  · have hp1 := HPPL.out
                    have hp2 := HPSL.out
                    obtain ⟨ba, oa, rfl, hba, hca⟩ := HU4.out (by omega)
                    obtain ⟨bb, ob, rfl, hbb, hcb⟩ := HV4.out (by omega)
                    obtain ⟨g1, g2⟩ := HU7.out ba rfl
                    obtain ⟨g3, g4⟩ := HV7.out bb rfl
                    have g5 : w7.heap.size < bb := by simp at g3; omega
                    have cE : wr.cell? ⟨ba, oa + i, none⟩ = some (.int .u64 ((nth pp i : Nat) : Int)) := (grown_cell HGi.out hba (fun e => by injection e with e; omega)).trans (by simpa [uC] using hca i (by omega) 0 _ rfl)
                    have cF : wr.cell? ⟨bb, ob + i, none⟩ = some (.int .u64 ((nth ps i : Nat) : Int)) := (grown_cell HGi.out hbb (fun e => by injection e with e; omega)).trans (by simpa [uC] using hcb i (by omega) 0 _ rfl)
                    have z4 : wr.cell? ⟨w7.heap.size, 4, none⟩ = some (.slice (some ⟨ba, oa, none⟩) L pc) := (grown_cell HGi.out (by omega) (fun e => by injection e with e; omega)).trans HX1.out.x4
                    have z5 : wr.cell? ⟨w8.heap.size, 4, none⟩ = some (.slice (some ⟨bb, ob, none⟩) L pd) := (grown_cell HGi.out (by omega) (fun e => by injection e with e; omega)).trans HX2.out.x4
                    have HQA := Lib.hid (show ∀ o, QP (wr.alloc o).drew Bs (.slice Av' (r + i) cv') (rest ++ zipP pp ps i) from fun o => HQi.out.below (((Below.refl _ _).alloc (Nat.le_refl _) o).drew))
                    have HLN := Lib.hid (show (rest ++ zipP pp ps i).length = r + i by rw [List.length_append, zipP_len, HR.out])
                    have j0 : (0 : Int) ≤ (i : Int) := by omega
                    have j1 : (i : Int) < (L : Int) := by omega
                    have hbsz : Bs ≤ wr.heap.size := by have := HB9.out.size; omega
                    clear hp1 hp2 hca hcb g3
                    go_wp2_with fail
                    go_region_law (refine step_append_q rfl _ _ 79 rfl Bs 81 iP _ 2 16 Try.underlying79 hiP hzP0 hzP1 hzP2 rfl (by omega) (.slice Av' (r + i) cv') (rest ++ zipP pp ps i).length (encP (rest ++ zipP pp ps i)) (by simp [Act.eval]) (HQA.out _).1 wr.heap.size [.int .u64 ((nth pp i : Nat) : Int), .int .u64 ((nth ps i : Nat) : Int)] (by simp [Act.eval]) rfl (fun j u hj => cell_newL wr _ _ _ rfl j u hj) (fun u hu => by simp at hu; rcases hu with rfl | rfl <;> rfl) (by rw [HLN.out]; unfold maxLen; omega) (by rw [HLN.out]; omega) (by simp; omega) ?_; intro v4 w4 hown4 hgrow4 hat4; have HO4 := Lib.hid hown4; have HG4 := Lib.hid hgrow4; have HA4 := Lib.hid hat4; clear hown4 hgrow4 hat4)
                    all_goals
                      try simp only [Act.put, List.getElem_toArray, List.getElem_cons_zero, List.getElem_cons_succ, List.setIfInBounds_toArray, List.set_cons_zero, List.set_cons_succ]
                      go_wp2_with fail
                      have hQ4 := (HQA.out _).snoc (p := (nth pp i, nth ps i)) HO4.out HG4.out HA4.out (by simp; omega)
                      have hln4 : (rest ++ zipP pp ps i ++ [(nth pp i, nth ps i)]).length = r + (i + 1) := by rw [List.length_append, HLN.out]; simp; omega
                      obtain ⟨A4, c4, hv4, _, _⟩ := hQ4.form
                      rw [hln4] at hv4
                      subst hv4
                      rw [List.append_assoc, ← zipP_succ] at hQ4
                      refine ⟨⟨i + 1, A4, c4, by omega, by go_num, rfl, hQ4, ?_, fun k hk => ?_⟩, by simp [intOf]; omega⟩
                      · refine grown_step (grown_step HGi.out (grown_below (g := none) (((Below.refl _ _).alloc (Nat.le_refl _) _).drew)) (.inr (by simp))) HG4.out ?_
                        cases hob : (Value.slice Av' (r + i) cv').ownBlock with
                        | none => exact .inr (fun k hk => by cases hk)
                        | some k0 =>
                          rcases HBi.out k0 hob with h1 | h1
                          · exact .inl (by rw [h1])
                          · exact .inr (fun k hk => by injection hk with hk; omega)
                      · rcases HA4.out with h1 | ⟨g, h1, h2, h3⟩
                        · rw [h1] at hk
                          exact HBi.out k hk
                        · rw [h1] at hk
                          injection hk with hk
                          simp at h2
                          exact .inr (by omega)
                  · have hiL : i = L := by omega
                    subst hiL
                    go_wp2_with fail
                    go_roundw
                    case rel =>
                      have e1 : lookI ((m, n) :: P) = fun y => if y = ((m : Nat) : Int) then some ((n : Nat) : Int) else lookI P y := by funext y; rfl
                      have e2 : lookI (swp ((m, n) :: P)) = fun y => if y = ((n : Nat) : Int) then some ((m : Nat) : Int) else lookI (swp P) y := by funext y; rfl
                      have hmb2 := HMB.out
                      refine ⟨(m, n) :: P, rest ++ zipP pp ps i, Av', cv', by rw [List.length_append, zipP_len, HR.out], HNEW.out, ?_, ?_, ?_, ?_, ?_, ?_⟩
                      · have := HQi.out
                        rw [List.length_append, zipP_len, HR.out]
                        exact this
                      · rw [e1]
                        exact (HM7.out.below HB9.out).kept HGi.out (fun e => by injection e with e; omega)
                      · rw [e2]
                        exact (HK7.out.below HB9.out).kept HGi.out (fun e => by injection e with e; omega)
                      · exact grown_step (grown_step HG8.out (grown_below (g := none) HB9.out) (.inr (by simp))) HGi.out (.inr (fun k hk => by injection hk with hk; omega))
                      · have := HB9.out.size
                        omega
                      · rw [List.length_append, zipP_len, HR.out, List.length_cons]
                        have := HRP.out
                        omega
                    case measure =>
                      have hmb2 := HMB.out
                      have h1 := ((HM7.out.below HB9.out).kept HGi.out (fun e => by injection e with e; omega)).cnt
                      have h2 := HNEW.out.keys HC.out
                      rw [h1, HA.out.m1.cnt]
                      simp only [List.length_cons] at h2
                      show 1000 * (4000 - (P.length + 1)) + (r + i) < 1000 * (4000 - P.length) + (r + 1)
                      omega
            · obtain rfl : q = p := hrelp.2 ht
              have HINV := Lib.hid (HA.out.inv.leaf ht)
              have HTR := Lib.hid (fun W => tread_ok (q : Int) W ⟨by omega, by omega⟩ hokp)
              obtain ⟨T, hT⟩ : ∃ T, tagOf (q : Int) = T := ⟨_, rfl⟩
              obtain ⟨N, hN⟩ : ∃ N, numOf (q : Int) = N := ⟨_, rfl⟩
              rw [hT, hN] at HTR
              rw [hT] at ht
              have d1 : decide (T = 4) = false := decide_eq_false ht
              have d2 : (T == 4) = false := by simpa using ht
              clear hT hN hokp hrelp
              go_wp2_with fail
              refine (HTR.out _).mono ?_
              rintro e w1 ⟨rfl, rfl⟩
              go_wp2_with fail
              refine (HTR.out _).mono ?_
              rintro e w1 ⟨rfl, rfl⟩
              go_wp2_with fail
              go_roundw
              case rel => exact ⟨P, rest, A2, cv - 1, by rw [HR.out], (HA.out.below (HW0.out _)).cut HINV.out (HQ2.out.below (HW0.out _)) (by simp)⟩
              case measure => exact alk_less HA.out.m1 (HA.out.m1.below (HW0.out _))
end Go.Proofs.Ytmpeckjemgenbaa
