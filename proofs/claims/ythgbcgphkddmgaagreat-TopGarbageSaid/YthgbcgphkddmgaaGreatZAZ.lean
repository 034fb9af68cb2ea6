/- Letters are sent; one is removed: the round. One is removed. -/
import Derived.Test.YthgbcgphkddmgaaGreatZAY
namespace Go.Proofs.YthgbcgphkddmgaaGreat
open Go.RowKit Go.Maps
set_option linter.unusedVariables false
set_option linter.unusedSimpArgs false
theorem send_with {w : World} {X M : Nat → Prop} {base T p : Nat} {P : Int → Nat} {N : NdS} {k : Nat} (hrem : RemOk k) (x : LT) (cs : List Value) (S : Nat → Prop) (h : NodeAt w X M base T p P N) (hl : x.isL w S cs) (hx : LtWf x) (hk : 1 ≤ x.kind ∧ x.kind ≤ 5) (hlen : N.acts.length ≤ k) (hpot : pot N + 1 ≤ T) (hT : T ≤ 1000000000000)
    (hrep : ∀ W, Fr (fun _ => False) w W → Calls Tryz.prog 148 #[.pointer (some ⟨p, 0, none⟩), .agg cs.toArray] W (SndPost X M base T p P N (replyW (remK k) N x) 1 W (.tuple #[]))) :
    Calls Tryz.prog 118 #[.pointer (some ⟨p, 0, none⟩), .agg cs.toArray] w (SndPost X M base T p P N (sendW (remK k) N x) 1 w (.tuple #[])) := by
  rcases hh : N.has x.to with _ | _
  · by_cases hloc : locN N x.to = N.id
    · exact send_rep _ x cs S h hl hx hh hloc hrep
    · exact send_out _ x cs S h hl hx hh hloc hpot hT
  · exact send_has hrem x cs S h hl hx hk hlen hh hT
theorem SndPost.up {X M : Nat → Prop} {base T p : Nat} {P : Int → Nat} {N N' : NdS} {c c' : Nat} {w : World} {v : Value} {e : Ending} {w' : World} (h : SndPost X M base T p P N N' c w v e w') (hc : c ≤ c') : SndPost X M base T p P N N' c' w v e w' := ⟨h.1, by have := h.2.1; omega, h.2.2⟩
theorem noneL_some {x y : LT} (h : noneL x = some y) : noneL y = none ∧ (1 ≤ y.kind ∧ y.kind ≤ 5) ∧ (LtWf x → LtWf y) := by
  unfold noneL at h
  have w0 : Wf 0 := Wf.of (by decide) (by decide)
  have w2 : Wf 2 := Wf.of (by decide) (by decide)
  have leaf : ∀ k m : Int, Wf m → (vLeaf k m).wf ∧ (vLeaf k m).many ≤ 1000 := fun k m hm => by
    have := hm.low
    exact ⟨⟨⟨by omega, by omega⟩, fun i hi => by omega⟩, by simp [vLeaf, VT.many, sumTo]⟩
  split at h
  · injection h with h
    subst h
    exact ⟨rfl, ⟨show (1 : Int) ≤ 2 by decide, show (2 : Int) ≤ 5 by decide⟩, fun hx => ⟨hx.2.1, hx.1, w2, leaf 0 0 w0⟩⟩
  · split at h
    · injection h with h
      subst h
      exact ⟨rfl, ⟨show (1 : Int) ≤ 5 by decide, show (5 : Int) ≤ 5 by decide⟩, fun hx => ⟨hx.2.1, hx.1, w0, leaf 0 0 w0⟩⟩
    · cases h
set_option maxRecDepth 100000 in
set_option maxHeartbeats 4000000 in
theorem reply_any {w : World} {X M : Nat → Prop} {base T p : Nat} {P : Int → Nat} {N : NdS} {k : Nat} (hrem : RemOk k) (x : LT) (cs : List Value) (S : Nat → Prop) (h : NodeAt w X M base T p P N) (hl : x.isL w S cs) (hx : LtWf x) (hlen : N.acts.length ≤ k) (hpot : pot N + 1 ≤ T) (hT : T ≤ 1000000000000) :
    Calls Tryz.prog 148 #[.pointer (some ⟨p, 0, none⟩), .agg cs.toArray] w (SndPost X M base T p P N (replyW (remK k) N x) 1 w (.tuple #[])) := by
  rcases hn : noneL x with _ | y
  · exact (reply_plain (remK k) x cs S h hl hn).mono fun _ _ h => h.up (by omega)
  · obtain ⟨hy, hyk, hyw⟩ := noneL_some hn
    have hyw := hyw hx
    have HE := Lib.hid (show replyW (remK k) N x = sendW (remK k) N y by unfold replyW; rw [hn]; unfold sendW send1W replyW; rw [hy])
    have HS := Lib.hid (fun (W : World) (hf : Fr (fun _ => False) w W) (cs' : List Value) (hl' : y.isL W (fun _ => True) cs') => send_with hrem y cs' (fun _ => True) (h.new hf (fun _ h => h)) hl' hyw hyk hlen hpot hT (fun W2 hf2 => (reply_plain (remK k) y cs' (fun _ => True) (h.new (hf.trans' hf2) (fun _ h => h)) (isL_frame hf2.size (fun b hb hlt => ⟨trivial, hf2.block b hlt (fun h => h)⟩) hl') hy).mono fun _ _ h => h.up (by omega)))
    obtain ⟨⟨⟨q1, q2, q3⟩, q4, q5, q6⟩, hQ⟩ := isL_ex hl
    dsimp only at hQ
    subst hQ
    have HL := Lib.hid (show ∀ W, Fr (fun _ => False) w W → x.isL W S [.int .i64 x.kind, .int .i64 x.frm, .int .i64 x.to, .int .i64 x.num, .string x.text, .int .i64 q1, .int .i64 q2, .string q3, .slice q4 q5 q6] from fun W hf => isL_frame hf.size (fun k hk hlt => ⟨hk, hf.block k hlt (fun h => h)⟩) hl)
    have HN := Lib.hid hn
    clear hl h hx hn hy hyk hyw
    go_enter Tryz.func148, Tryz.ntmps148
    go_wp2_with fail
    refine (none_any x _ S _ (HL.out _ (by (repeat' first | with_reducible exact Fr.refl _ _ | (with_reducible refine Fr.setEq ?_ _) | (with_reducible refine Fr.setNew ?_ _) | with_reducible refine Fr.alloc ?_ _ | with_reducible refine Fr.drewN ?_ _ | with_reducible refine Fr.drew ?_)))).mono ?_
    rintro e w1 (⟨h, _⟩ | ⟨y', cs', hy, rfl, hcs, hb⟩)
    · rw [HN.out] at h; cases h
    have e1 : y = y' := by rw [HN.out] at hy; injection hy
    subst e1
    have HB := Lib.hid (show Fr (fun _ => False) w w1 from (show Fr (fun _ => False) w _ by (repeat' first | with_reducible exact Fr.refl _ _ | (with_reducible refine Fr.setEq ?_ _) | (with_reducible refine Fr.setNew ?_ _) | with_reducible refine Fr.alloc ?_ _ | with_reducible refine Fr.drewN ?_ _ | with_reducible refine Fr.drew ?_)).trans' (Fr.of_below hb))
    have HCS := Lib.hid hcs
    obtain ⟨⟨⟨r1, r2, r3⟩, r4, r5, r6⟩, hR⟩ := isL_ex (hcs w1 (fun _ => True))
    dsimp only at hR
    subst hR
    clear hb hcs hy
    go_wp2_with fail
    refine (HS.out _ (HB.out.alloc _) _ (HCS.out _ _)).mono ?_
    rintro e w2 ⟨⟨rfl, X', M', hg, hn⟩, hp1, hp2⟩
    have HG := Lib.hid hg
    have HN2 := Lib.hid hn
    have HP := Lib.hid (And.intro hp1 hp2)
    clear hg hn hp1 hp2
    go_wp2_with fail
    refine bodyPost_end (results_none rfl _ _ _) rfl ?_
    rw [HE.out]
    exact ⟨⟨rfl, X', M', (Gr.new (HB.out.alloc _)).trans HG.out, HN2.out⟩, HP.out.1, HP.out.2⟩
theorem send_any {w : World} {X M : Nat → Prop} {base T p : Nat} {P : Int → Nat} {N : NdS} {k : Nat} (hrem : RemOk k) (x : LT) (cs : List Value) (S : Nat → Prop) (h : NodeAt w X M base T p P N) (hl : x.isL w S cs) (hx : LtWf x) (hk : 1 ≤ x.kind ∧ x.kind ≤ 5) (hlen : N.acts.length ≤ k) (hpot : pot N + 1 ≤ T) (hT : T ≤ 1000000000000) :
    Calls Tryz.prog 118 #[.pointer (some ⟨p, 0, none⟩), .agg cs.toArray] w (SndPost X M base T p P N (sendW (remK k) N x) 1 w (.tuple #[])) :=
  send_with hrem x cs S h hl hx hk hlen hpot hT (fun W hf => reply_any hrem x cs S (h.new hf (fun _ h => h)) (isL_frame hf.size (fun b hb hlt => ⟨hb, hf.block b hlt (fun h => h)⟩) hl) hx hlen hpot hT)
/-- the map of the actors has turned -/
theorem NodeG.del {w w' : World} {X M : Nat → Prop} {base T p mb hb : Nat} {P : Int → Nat} {MA : Int → Nat → Prop} {ob sb : Option Nat} {N : NdS} (h : NodeG w X base T p mb hb P MA ob sb N) (hm : Mine M p mb hb MA ob sb N) (hMX : ∀ k, M k → X k ∧ base ≤ k) (r : Int) (hf : Fr (fun k => k = mb) w w')
    (ho : OwnM w' mb (N.delA r).acts.length (fun x => if (N.delA r).has x then some (.pointer (some ⟨P x, 0, none⟩)) else none)) : NodeG w' X base T p mb hb P MA ob sb (N.delA r) := by
  have hS : ∀ k, k = mb → X k ∧ base ≤ k := fun k hk => hk ▸ hMX mb hm.mb
  obtain ⟨a1, a2, a3, a4, a5⟩ := h.ap
  have hp : ¬ p = mb := a1
  obtain ⟨A2, c2, s1, s2⟩ := h.c2
  obtain ⟨v4, r1, r2⟩ := h.c4
  obtain ⟨v8, C, o1, o2⟩ := h.c8
  obtain ⟨v9, q1, q2, q3⟩ := h.c9
  obtain ⟨n, k1, k2⟩ := h.hm
  have hl := h.lt
  exact ⟨hf.cell h.c0 hp, hf.cell h.c1 hp, ⟨A2, c2, hf.cell s1 hp, s2.fr hf (fun k hk => (hS k hk).2)⟩, hf.cell h.c3 hp, ⟨v4, hf.cell r1 hp, r2.fr hf (fun k hk => (hS k hk).1) (fun k hk => .inl hk)⟩, hf.cell h.c5 hp, hf.cell h.c6 hp, hf.cell h.c7 hp, ⟨v8, C, hf.cell o1 hp, o2.fr hf (fun k hk => (hS k hk).1) (fun k hk => .inl hk) (fun k hk hs => (a4 k hk).2.1 hs)⟩, ⟨v9, hf.cell q1 hp, hf.row q2 (fun k hk hs => (a5 k (q3.symm.trans hk)).2.1 hs), q3⟩,
    fun o => (hf.frozen hl.1 hp).trans (h.fz o), ho, ⟨n, k1.fr hf (fun e => a3 e.symm), k2⟩, fun a ha => by
      obtain ⟨ha, _⟩ := mem_delA.1 ha
      obtain ⟨b, rb, kb, ib, hh⟩ := h.acts a ha
      exact ⟨b, rb, kb, ib, hh.fr hf (fun k hk => (hS k hk).1) (fun k hk => .inl hk) (fun k hk => (hS k hk).2) (Nat.le_refl _) (fun k hk hs => (h.own a ha k hk).2.1 hs)⟩, fun a b ha hb => h.disj a b (mem_delA.1 ha).1 (mem_delA.1 hb).1, fun a ha => h.own a (mem_delA.1 ha).1, h.ap, by
      have h1 := h.lim
      have h2 : (N.delA r).acts.length ≤ N.acts.length := List.length_filter_le _ _
      have h3 : (N.delA r).out = N.out := rfl
      have h4 : (N.delA r).said = N.said := rfl
      rw [h3, h4]
      omega⟩
set_option maxRecDepth 100000 in
/-- one is struck from the map -/
theorem NodeAt.del {w : World} {X M : Nat → Prop} {base T p : Nat} {P : Int → Nat} {N : NdS} (h : NodeAt w X M base T p P N) {r : Int} (hr : N.has r = true) : ∃ mb, w.cell? ⟨p, 3, none⟩ = some (.map (some mb)) ∧ ∀ ty, ∃ w', (Builtin.delete_ #[129, 3] ty #[.map (some mb), .int .i64 r]).run Tryz.prog w = .ok (.tuple #[]) w' ∧ Gr X M w X M w' ∧ NodeAt w' X M base T p P (N.delA r) := by
  obtain ⟨h1, h2, h3, mb, hb, MA, ob, sb, h4, h5⟩ := h
  obtain ⟨a, ha, rfl⟩ := has_iff.1 hr
  have hwf := (h1.act a ha).ref
  refine ⟨mb, h4.c3, fun ty => ?_⟩
  obtain ⟨w', hrun, ho, hg⟩ := OwnM.drop und_actors h4.am a.ref hwf ty
  have hf : Fr (fun k => k = mb) w w' := Fr.of_grown hg (fun k hk => .inl (by injection hk with hk; exact hk.symm))
  have hlen := len_delA h1.srt hr
  have hcond : (if N.has a.ref = true then some (Value.pointer (some ⟨P a.ref, 0, none⟩)) else none : Option Value).isSome = true := by rw [if_pos hr]; rfl
  rw [if_pos hcond] at ho
  refine ⟨w', hrun, ⟨hf.weak (fun k hk => hk ▸ h5.mb), fun _ h => h, fun _ h => .inl h, fun _ h => .inl h⟩, h1.delA a.ref, fun k hk => Nat.lt_of_lt_of_le (h2 k hk) hf.size, h3, mb, hb, MA, ob, sb, h4.del h5 h3 a.ref hf ?_, ⟨h5.p, h5.mb, h5.hb, h5.ob, h5.sb, fun b hb => h5.act b (mem_delA.1 hb).1⟩⟩
  have e : (N.delA a.ref).acts.length = N.acts.length - 1 := by omega
  rw [e]
  refine ho.congr (fun x _ => ?_)
  rw [has_delA]
  by_cases e : x = a.ref
  · rw [if_pos e, if_pos e]; rfl
  · rw [if_neg e, if_neg e]
theorem tell_wf {rows : List Li.LR} {ref : Int} {failed : Bool} {text : ByteArray} (h : RowsOk rows) (hr : Wf ref) {y : LT} (hy : y ∈ tellL rows ref failed text) : LtWf y ∧ 1 ≤ y.kind ∧ y.kind ≤ 5 := by
  have w0 : Wf 0 := Wf.of (by decide) (by decide)
  have w1 : Wf 1 := Wf.of (by decide) (by decide)
  have leaf : (vLeaf 0 0).wf ∧ (vLeaf 0 0).many ≤ 1000 := ⟨⟨⟨by decide, by decide⟩, fun i hi => by omega⟩, by simp [vLeaf, VT.many, sumTo]⟩
  unfold tellL at hy
  split at hy
  · cases hy
  · rename_i r hf
    have hm : r ∈ rows := List.mem_of_find?_eq_some hf
    obtain ⟨_, f, g⟩ := h.wf r hm
    rcases List.mem_append.1 hy with hy | hy
    · obtain ⟨x, hx, rfl⟩ := List.mem_map.1 hy
      exact ⟨⟨hr, f x hx, by cases failed; exact w0; exact w1, leaf⟩, by show (1 : Int) ≤ 2; decide, by show (2 : Int) ≤ 5; decide⟩
    · split at hy
      · obtain ⟨x, hx, rfl⟩ := List.mem_map.1 hy
        exact ⟨⟨hr, g x hx, w0, leaf⟩, by show (1 : Int) ≤ 5; decide, by show (5 : Int) ≤ 5; decide⟩
      · cases hy
end Go.Proofs.YthgbcgphkddmgaaGreat
namespace Go.Proofs.YthgbcgphkddmgaaGreat
open Go.RowKit Go.Maps
set_option linter.unusedVariables false
set_option linter.unusedSimpArgs false
theorem RemOk.zero : RemOk 0 := by
  intro X M base T p P N ref failed text w h hlen hhas hT
  obtain ⟨a, ha, _⟩ := has_iff.1 hhas
  have : 0 < N.acts.length := List.length_pos_of_mem ha
  omega
theorem foldl_take {α β : Type} (f : β → α → β) (b : β) (l : List α) {i : Nat} {y : α} (h : l[i]? = some y) : (l.take (i + 1)).foldl f b = f ((l.take i).foldl f b) y := by
  have hi : i < l.length := (List.getElem?_eq_some_iff.1 h).1
  have e : l.take (i + 1) = l.take i ++ [y] := by
    rw [List.take_add_one, h]
    rfl
  rw [e, List.foldl_append]
  rfl
set_option maxRecDepth 100000 in
set_option maxHeartbeats 8000000 in
theorem RemOk.succ {k : Nat} (hrem : RemOk k) : RemOk (k + 1) := by
  intro X M base T p P N ref failed text w h hlen hhas hT
  obtain ⟨a, ha, har⟩ := has_iff.1 hhas
  have hwr : Wf ref := har ▸ (h.ok.act a ha).ref
  obtain ⟨A, c, c4, hr⟩ := h.rows
  have hlim : pot N ≤ T := h.lim
  have HR := Lib.hid hr
  have HN := Lib.hid h
  have hok := h.ok.rows
  have HOK := Lib.hid (hok.gone ref)
  have HTW := Lib.hid (fun y hy => tell_wf (failed := failed) (text := text) hok hwr (y := y) hy)
  have HG0 := Lib.hid (lgone_any X (.slice A N.rows.length c) N.rows ref failed text w hr hok.ok h.xlt)
  have HE := Lib.hid (show remN (k + 1) N ref failed text = (tellL N.rows ref failed text).foldl (sendW (remK k)) { N.delA ref with rows := goneL N.rows ref } from rfl)
  have HHAS := Lib.hid hhas
  have hlen2 := len_delA h.ok.srt hhas
  have HL2 := Lib.hid (show pot { N.delA ref with rows := goneL N.rows ref } + 201 = pot N ∧ ({ N.delA ref with rows := goneL N.rows ref } : NdS).acts.length + 1 = N.acts.length from ⟨by show N.out.length + 201 * (N.delA ref).acts.length + 201 = N.out.length + 201 * N.acts.length; omega, hlen2⟩)
  have HP := Lib.hid (And.intro hlim hlen)
  have hplt := h.p_lt
  generalize htl : tellL N.rows ref failed text = tl at *
  generalize hN2 : ({ N.delA ref with rows := goneL N.rows ref } : NdS) = N2 at *
  have HN2 := Lib.hid hN2
  clear h hr hok ha har hhas hlim hlen hlen2 hN2
  unfold GonePost at HG0
  rw [htl] at HG0
  clear htl
  go_enter Tryz.func122, Tryz.ntmps122
  go_wp2_with fail
  refine HG0.out.mono ?_
  rintro e w1 ⟨A1, n1, c1, L, d, y, rfl, hb, hl1, hm200, hR⟩
  have HB := Lib.hid hb
  have HR1 := Lib.hid hR
  have HL1 := Lib.hid hl1
  clear hb hl1 hR
  go_wp2_with fail
  refine (change_nd (HN.out.below HB.out) HL1.out HOK.out).mono ?_
  rintro e w2 ⟨rfl, X2, M2, hg, hn⟩
  have HG2 := Lib.hid hg
  have HNN := Lib.hid hn
  obtain ⟨mb, c3, hdel⟩ := hn.del (r := ref) HHAS.out
  obtain ⟨w3, hrun, hg3, hn3⟩ := hdel 0
  have HG3 := Lib.hid (hg.trans hg3)
  have HN3 := Lib.hid (show NodeAt w3 X2 M2 base T p P N2 by rw [← HN2.out]; exact hn3)
  clear hg hn hg3 hn3 hdel
  go_wp2_with fail
  go_loopw [12, 36] (fun _ i wr => ∃ (q : Nat) (Xq Mq : Nat → Prop), q ≤ tl.length ∧ i = .int .i64 q ∧ Hid (Gr X M w1 Xq Mq wr) ∧ Hid (NodeAt wr Xq Mq base T p P ((tl.take q).foldl (sendW (remK k)) N2)) ∧ Hid (pot ((tl.take q).foldl (sendW (remK k)) N2) ≤ pot N2 + q ∧ ((tl.take q).foldl (sendW (remK k)) N2).acts.length ≤ N2.acts.length)) (fun _ i _ => tl.length - (intOf i).toNat)
  case atStart => exact ⟨0, X2, M2, Nat.zero_le _, rfl, HG3, HN3, Lib.hid ⟨Nat.le_refl _, Nat.le_refl _⟩⟩
  case round =>
    obtain ⟨q, Xq, Mq, hq, rfl, HGq, HNq, HPq⟩ := hrel
    by_cases hlt : q < tl.length
    · obtain ⟨b, off, rfl, hbl, hbS, C, hC⟩ := HR1.out (by omega)
      obtain ⟨hV, hcell⟩ := hC q hlt
      have hXw := HN.out.xlt
      have hMX := HN.out.2.2.1
      have hfr := HGq.out.fr
      have hzb := HB.out.size
      have hVr := Lib.hid (isL_frame (w' := wr) (S' := fun _ => True) hfr.size (fun k' hs hl => ⟨trivial, hfr.block k' hl (fun hm => by have h1 := hXw k' (hMX k' hm).1; have h2 : w.heap.size ≤ k' := hs; omega)⟩) hV)
      have hbM : ¬ M b := fun hm => by
        have h1 := hXw b (hMX b hm).1
        have h2 : w.heap.size ≤ b := hbS
        omega
      obtain ⟨⟨⟨r1, r2, r3⟩, r4, r5, r6⟩, hQ⟩ := isL_ex hV
      dsimp only at hQ
      rw [hQ] at hVr hcell
      obtain ⟨x, hx⟩ : ∃ x, nthL tl q = x := ⟨_, rfl⟩
      rw [hx] at hVr hcell
      have hget : tl[q]? = some x := by
        rw [List.getElem?_eq_getElem hlt, ← hx]
        unfold nthL
        rw [List.getD_eq_getElem?_getD, List.getElem?_eq_getElem hlt]
        rfl
      have HTK := Lib.hid (foldl_take (sendW (remK k)) N2 tl hget)
      have htw := HTW.out x (List.mem_of_getElem? hget)
      have d0 : wr.cell? ⟨b, off + q * 9, none⟩ = some (.int .i64 x.kind) := hfr.cell (hcell 0 _ rfl) hbM
      have d1 : wr.cell? ⟨b, off + q * 9 + 1, none⟩ = some (.int .i64 x.frm) := hfr.cell (hcell 1 _ rfl) hbM
      have d2 : wr.cell? ⟨b, off + q * 9 + 2, none⟩ = some (.int .i64 x.to) := hfr.cell (hcell 2 _ rfl) hbM
      have d3 : wr.cell? ⟨b, off + q * 9 + 3, none⟩ = some (.int .i64 x.num) := hfr.cell (hcell 3 _ rfl) hbM
      have d4 : wr.cell? ⟨b, off + q * 9 + 4, none⟩ = some (.string x.text) := hfr.cell (hcell 4 _ rfl) hbM
      have d5 : wr.cell? ⟨b, off + q * 9 + 5, none⟩ = some (.int .i64 r1) := hfr.cell (hcell 5 _ rfl) hbM
      have d6 : wr.cell? ⟨b, off + q * 9 + 6, none⟩ = some (.int .i64 r2) := hfr.cell (hcell 6 _ rfl) hbM
      have d7 : wr.cell? ⟨b, off + q * 9 + 7, none⟩ = some (.string r3) := hfr.cell (hcell 7 _ rfl) hbM
      have d8 : wr.cell? ⟨b, off + q * 9 + 8, none⟩ = some (.slice r4 r5 r6) := hfr.cell (hcell 8 _ rfl) hbM
      have hs1 := HL2.out
      have hs2 := HPq.out
      have hs3 := HP.out
      have HS := Lib.hid (fun (W : World) (hf : Fr (fun _ => False) wr W) => send_any hrem x _ (fun _ => True) (HNq.out.new hf (fun _ h => h)) (isL_frame hf.size (fun k' hk hlt => ⟨trivial, hf.block k' hlt (fun h => h)⟩) hVr.out) htw.1 htw.2 (by omega) (by omega) hT)
      have HQ2 := Lib.hid (show q + 1 ≤ tl.length from hlt)
      clear hV hcell hVr hQ hfr hx htw hs1 hs2 hs3 hget hC hXw hMX
      go_wp2_with fail
      refine (HS.out _ (by (repeat' first | with_reducible exact Fr.refl _ _ | (with_reducible refine Fr.setEq ?_ _) | (with_reducible refine Fr.setNew ?_ _) | with_reducible refine Fr.alloc ?_ _ | with_reducible refine Fr.drewN ?_ _ | with_reducible refine Fr.drew ?_))).mono ?_
      rintro e w5 ⟨⟨rfl, X5, M5, hg5, hn5⟩, hp1, hp2⟩
      have HG5 := Lib.hid (HGq.out.trans ((Gr.new (show Fr (fun _ => False) wr _ by (repeat' first | with_reducible exact Fr.refl _ _ | (with_reducible refine Fr.setEq ?_ _) | (with_reducible refine Fr.setNew ?_ _) | with_reducible refine Fr.alloc ?_ _ | with_reducible refine Fr.drewN ?_ _ | with_reducible refine Fr.drew ?_))).trans hg5))
      have HN5 := Lib.hid hn5
      have HP5 := Lib.hid (And.intro hp1 hp2)
      clear hg5 hn5 hp1 hp2 d0 d1 d2 d3 d4 d5 d6 d7 d8
      go_wp2_with fail
      go_roundw
      case rel =>
        refine ⟨q + 1, X5, M5, HQ2.out, by go_num, HG5, Lib.hid (by rw [HTK.out]; exact HN5.out), Lib.hid ?_⟩
        rw [HTK.out]
        have h1 := HP5.out
        have h2 := HPq.out
        omega
      case measure => simp [intOf]; omega
    · obtain rfl : q = tl.length := by omega
      go_wp2_with fail
      refine bodyPost_end (results_none rfl _ _ _) rfl ?_
      rw [HE.out]
      have hN := HNq.out
      have hPq := HPq.out
      rw [List.take_length] at hN hPq
      have h1 := HL2.out
      exact ⟨⟨rfl, Xq, Mq, (Gr.new (Fr.of_below HB.out)).trans HGq.out, hN⟩, by omega, by omega⟩
theorem rem_ok : ∀ k, RemOk k
  | 0 => RemOk.zero
  | k + 1 => (rem_ok k).succ
end Go.Proofs.YthgbcgphkddmgaaGreat
