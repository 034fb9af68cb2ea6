/- link.Watch and link.Link. -/
import Derived.Test.YtcjkibjaajbfmaaLinkD
namespace Go.Proofs.Ytcjkibjaajbfmaa
open Go.RowKit
set_option linter.unusedVariables false
def updR (R : Nat → LR) (i : Nat) (s : Bool) (l : List Int) : Nat → LR := fun k => if k = i then (if s then ⟨(R k).ref, l, (R k).ls⟩ else ⟨(R k).ref, (R k).ws, l⟩) else R k
def updW (vw : Nat → Value) (i : Nat) (s : Bool) (x : Value) : Nat → Value := if s then updV vw i x else vw
def updX (vl : Nat → Value) (i : Nat) (s : Bool) (x : Value) : Nat → Value := if s then vl else updV vl i x
theorem iv_upd (vw vl : Nat → Value) (i : Nat) (s : Bool) (x : Value) (j : Nat) (t : Bool) : iv (updW vw i s x) (updX vl i s x) j t = if j = i ∧ t = s then x else iv vw vl j t := by
  cases s <;> cases t <;> by_cases e : j = i <;> simp [iv, updW, updX, updV, e]
theorem il_upd (R : Nat → LR) (i : Nat) (s : Bool) (l : List Int) (j : Nat) (t : Bool) : il (updR R i s l) j t = if j = i ∧ t = s then l else il R j t := by
  cases s <;> cases t <;> by_cases e : j = i <;> simp [il, updR, e]
theorem updR_ref (R : Nat → LR) (i : Nat) (s : Bool) (l : List Int) (k : Nat) : (updR R i s l k).ref = (R k).ref := by
  unfold updR; split
  · split <;> rfl
  · rfl
theorem rwC_upd (R : Nat → LR) (vw vl : Nat → Value) (i : Nat) (s : Bool) (l : List Int) (x : Value) (k : Nat) : rwC (updR R i s l) (updW vw i s x) (updX vl i s x) k = if k = i then (rwC R vw vl i).set (if s then 1 else 2) x else rwC R vw vl k := by
  unfold rwC
  rw [updR_ref]
  by_cases e : k = i
  · subst e
    cases s <;> simp [updW, updX, updV]
  · cases s <;> simp [updW, updX, updV, e]
theorem OwnL.put {w w2 : World} {base g cap n i : Nat} {R : Nat → LR} {vw vl : Nat → Value} {v' : Value} {l' : List Int} {row : Option Nat} (s : Bool) (o : Nat) (ho : o = i * 3 + if s then 1 else 2) (h : OwnL w base (.slice (some ⟨g, 0, none⟩) n cap) n R vw vl) (hi : i < n) (hg : w.grownBy w2 row)
    (hrow : ∀ k, row = some k → (iv vw vl i s).ownBlock = some k ∨ w.heap.size ≤ k) (hO : OwnI w2 base v' l') (hat : ∀ k, v'.ownBlock = some k → (iv vw vl i s).ownBlock = some k ∨ w.heap.size ≤ k) :
    OwnL (w2.setCell ⟨g, o, none⟩ v') base (.slice (some ⟨g, 0, none⟩) n cap) n (updR R i s l') (updW vw i s v') (updX vl i s v') := by
  subst ho
  have hgl := (own_lt h.row).2
  have hlt : ∀ j, j < n → ∀ t k, (iv vw vl j t).ownBlock = some k → k < w.heap.size := fun j hj t k hk => ((h.each j hj t).blk k hk).2
  have hneg : ∀ j, j < n → ∀ t k, (iv vw vl j t).ownBlock = some k → k ≠ g := fun j hj t k hk e => h.outer j hj t k hk (by rw [e]; rfl)
  have hv'g : ∀ k, v'.ownBlock = some k → k ≠ g := fun k hk e => by
    rcases hat k hk with h1 | h1
    · exact hneg i hi s k h1 e
    · omega
  have hrow2 : w2.ownsRow base 68 3 (.slice (some ⟨g, 0, none⟩) n cap) n (flatC (rwC R vw vl) n) := own_grown h.row hg (fun k hk e => by
    have hk' : g = k := Option.some.inj hk
    rcases hrow k e with h1 | h1
    · exact hneg i hi s k h1 hk'.symm
    · omega)
  have hset := own_setC hrow2 (rwC_len _ _ _) (k := i) (j := if s then 1 else 2) (by split <;> omega) v' (G' := rwC (updR R i s l') (updW vw i s v') (updX vl i s v')) (fun k _ => rwC_upd R vw vl i s l' v' k)
  refine ⟨hset.1, fun j hj t => ?_, fun a b ha hb t u hab k hk => ?_, fun j hj t k hk => ?_⟩
  · rw [iv_upd, il_upd]
    by_cases e : j = i ∧ t = s
    · rw [if_pos e, if_pos e]
      exact hO.grown hset.2 (fun k hk e => hv'g k hk (by injection e with e; exact e.symm))
    · rw [if_neg e, if_neg e]
      refine ((h.each j hj t).grown hg (fun k hk e2 => ?_)).grown hset.2 (fun k hk e2 => hneg j hj t k hk (by injection e2 with e2; exact e2.symm))
      rcases hrow k e2 with h1 | h1
      · exact h.apart j i hj hi t s e k hk h1
      · have := hlt j hj t k hk; omega
  · rw [iv_upd] at hk ⊢
    by_cases e : a = i ∧ t = s
    · rw [if_pos e] at hk
      have e' : ¬ (b = i ∧ u = s) := fun h2 => hab ⟨e.1.trans h2.1.symm, e.2.trans h2.2.symm⟩
      rw [if_neg e']
      intro e2
      rcases hat k hk with h1 | h1
      · exact h.apart i b hi hb s u (fun h2 => e' ⟨h2.1.symm, h2.2.symm⟩) k h1 e2
      · have := hlt b hb u k e2; omega
    · rw [if_neg e] at hk
      by_cases e3 : b = i ∧ u = s
      · rw [if_pos e3]
        intro e2
        rcases hat k e2 with h1 | h1
        · exact h.apart a i ha hi t s e k hk h1
        · have := hlt a ha t k hk; omega
      · rw [if_neg e3]
        exact h.apart a b ha hb t u hab k hk
  · intro e2
    have hk' : g = k := Option.some.inj e2
    rw [iv_upd] at hk
    by_cases e : j = i ∧ t = s
    · rw [if_pos e] at hk
      exact hv'g k hk hk'.symm
    · rw [if_neg e] at hk
      exact hneg j hj t k hk hk'.symm
def RowsBad (w : World) (e : Ending) (w' : World) : Prop := ∃ x : Int, x ≠ 0 ∧ e = .returned (.tuple #[.slice none 0 0, .int .i64 x]) ∧ Below w.heap.size w w'
def RowsOk (R : Nat → LR) (n : Nat) (w : World) (e : Ending) (w' : World) : Prop := ∃ A c vw vl, e = .returned (.tuple #[.slice A n c, .int .i64 0]) ∧ OwnL w' w.heap.size (.slice A n c) n R vw vl ∧ Below w.heap.size w w'
def WatchOk (R : Nat → LR) (n : Nat) (ref : Int) (i : Nat) : Prop := OkIx R n ref i ∧ (R i).ws.length ≠ 100
set_option maxRecDepth 100000 in
set_option maxHeartbeats 4000000 in
theorem watch_ok (A : Option Addr) (n c : Nat) (R : Nat → LR) (vw vl : Nat → Value) (x ref : Int) (i : Nat) (w : World) (hn : n ≤ c) (hc : c ≤ 9223372036854775807) (hR : RdL w A n R vw vl) (hi : WatchOk R n ref i) :
    Calls Try.prog 38 #[.slice A n c, .int .i64 x, .int .i64 ref] w (RowsOk (updR R i true ((R i).ws ++ [x])) n w) := by
  have HOK := Lib.hid hi
  have hin := hi.1.2.1
  have h100 := (hi.1.1.2 i hi.1.2.1).2.1
  have hl : ((((R i).ws.length : Nat) : Int) == 100) = false := by have := hi.2; simp; omega
  have H := Lib.hid (begin_ok A n c R vw vl ref i w hn hc hR hi.1)
  have hnm := hi.1.1.1
  clear hR hi
  go_enter Try.func38, Try.ntmps38
  go_wp2_with fail
  refine H.out.mono ?_
  rintro e w1 ⟨A1, c1, vw1, vl1, rfl, hO, hb⟩
  obtain ⟨g, cap, hv, hbase, hglt, hnc, hcm⟩ := own_form hO.row (by omega)
  injection hv with e1 _ e3
  subst e1 e3
  obtain ⟨wA, wc, hvw, q1, q2, _⟩ := own_any (hO.each i hin true)
  have hvw' : vw1 i = .slice wA (R i).ws.length wc := hvw
  have c0 : w1.cell? ⟨g, i * 3 + 1, none⟩ = some (.slice wA (R i).ws.length wc) := by
    rw [own_cellC hO.row (rwC_len _ _ _) hin (j := 1) (by omega)]
    simp [rwC, hvw']
  have cf : ∀ o, w1.frozen? ⟨g, o, none⟩ = false := fun o => hO.row.frozenAt o
  have HOI := Lib.hid (show OwnI w1 w.heap.size (.slice wA (R i).ws.length wc) (R i).ws by rw [← hvw']; exact hO.each i hin true)
  have HV := Lib.hid (show iv vw1 vl1 i true = .slice wA (R i).ws.length wc from hvw')
  have HO := Lib.hid hO
  have HB := Lib.hid hb
  have hz := hb.size
  have j0 : (0 : Int) ≤ (i : Int) := by omega
  have j1 : (i : Int) < (n : Int) := by omega
  have HNEG := Lib.hid (show ∀ k, (Value.slice wA (R i).ws.length wc).ownBlock = some k → g = k → False from fun k hk e => hO.outer i hin true k (by rw [HV.out]; exact hk) (by rw [← e]; rfl))
  clear hO hb hvw hvw'
  have HWL := Lib.hid (show (R i).ws.length ≤ 1000000 by omega)
  go_wp2_with (at_builtin; go_loud (refine wpList_append_int rfl _ _ rfl w.heap.size (.slice wA (R i).ws.length wc) (R i).ws rfl HOI.out w1.heap.size rfl x rfl HWL.out (by omega) ?_; intro v4 w4 hown4 hgrow4 hat4; obtain ⟨A4, c4, rfl, hn4, hc4, _⟩ := own_any hown4; have d0 := (grown_cell hgrow4 hglt (fun e => HNEG.out _ e.symm rfl)).trans c0; have df : ∀ o, w4.frozen? ⟨g, o, none⟩ = false := (fun o => (grown_frozen hgrow4 hglt (fun e => HNEG.out _ e.symm rfl)).trans (cf o)); clear c0 cf; have HO4 := Lib.hid hown4; have HG4 := Lib.hid hgrow4; have HA4 := Lib.hid hat4; clear hown4 hgrow4 hat4))
  go_ret2
  refine ⟨some ⟨g, 0, none⟩, c1, updW vw1 i true (.slice A4 ((R i).ws ++ [x]).length c4), updX vl1 i true (.slice A4 ((R i).ws ++ [x]).length c4), rfl, ?_, ?_⟩
  · rw [show (R i).ws.length + 1 = ((R i).ws ++ [x]).length by simp]
    refine OwnL.put true _ (by simp) HO.out hin HG4.out (fun k hk => .inl (by rw [HV.out]; exact hk)) HO4.out (fun k hk => ?_)
    rcases HA4.out with h | h
    · exact .inl (by rw [HV.out, ← h]; exact hk)
    · have h' : some k = some (w1.heap.size + 1) := hk.symm.trans h
      injection h' with h'
      exact .inr (by omega)
  · exact below_set (below_grown HB.out (by omega) HG4.out (fun k hk => (HOI.out.blk k hk).1)) hbase
theorem watch_bad (A : Option Addr) (n c : Nat) (R : Nat → LR) (vw vl : Nat → Value) (x ref : Int) (w : World) (hn : n ≤ c) (hc : c ≤ 9223372036854775807) (hR : RdL w A n R vw vl) (hno : ¬ ∃ i, WatchOk R n ref i) :
    Calls Try.prog 38 #[.slice A n c, .int .i64 x, .int .i64 ref] w (RowsBad w) := by
  by_cases hi : ∃ i, OkIx R n ref i
  · obtain ⟨i, hi⟩ := hi
    have h100 : (R i).ws.length = 100 := Decidable.byContradiction fun h => hno ⟨i, hi, h⟩
    have hl : ((((R i).ws.length : Nat) : Int) == 100) = true := by simp; omega
    have hin := hi.2.1
    have H := Lib.hid (begin_ok A n c R vw vl ref i w hn hc hR hi)
    clear hR hi hno
    have H100 := Lib.hid h100
    clear h100
    go_enter Try.func38, Try.ntmps38
    go_wp2_with fail
    refine H.out.mono ?_
    rintro e w1 ⟨A1, c1, vw1, vl1, rfl, hO, hb⟩
    obtain ⟨g, cap, hv, hbase, hglt, hnc, hcm⟩ := own_form hO.row (by omega)
    injection hv with e1 _ e3
    subst e1 e3
    obtain ⟨wA, wc, hvw, q1, q2, _⟩ := own_any (hO.each i hin true)
    have hvw' : vw1 i = .slice wA (R i).ws.length wc := hvw
    have c0 : w1.cell? ⟨g, i * 3 + 1, none⟩ = some (.slice wA (R i).ws.length wc) := by
      rw [own_cellC hO.row (rwC_len _ _ _) hin (j := 1) (by omega)]
      simp [rwC, hvw']
    have HB := Lib.hid hb
    have j0 : (0 : Int) ≤ (i : Int) := by omega
    have j1 : (i : Int) < (n : Int) := by omega
    clear hO hb hvw hvw'
    go_wp2_with fail
    go_ret2
    exact ⟨6, by omega, rfl, HB.out⟩
  · have H := Lib.hid (begin_bad A n c R vw vl ref w hn hc hR hi)
    clear hR hi hno
    go_enter Try.func38, Try.ntmps38
    go_wp2_with fail
    refine H.out.mono ?_
    rintro e w1 ⟨y, hy, _, rfl, hb⟩
    have HY := Lib.hid hy
    have HB := Lib.hid hb
    have e0 : (y != 0) = true := by simpa using hy
    clear hy hb
    go_wp2_with fail
    go_ret2
    exact ⟨y, HY.out, rfl, HB.out⟩
def LinkOk (R : Nat → LR) (n : Nat) (ref x : Int) (i : Nat) : Prop := OkIx R n ref i ∧ (x ∈ (R i).ls ∨ (R i).ls.length ≠ 100)
def linkR (R : Nat → LR) (i : Nat) (x : Int) : Nat → LR := if x ∈ (R i).ls then R else updR R i false ((R i).ls ++ [x])
set_option maxRecDepth 100000 in
set_option maxHeartbeats 4000000 in
theorem link_add (A : Option Addr) (n c : Nat) (R : Nat → LR) (vw vl : Nat → Value) (ref x : Int) (i : Nat) (w : World) (hn : n ≤ c) (hc : c ≤ 9223372036854775807) (hR : RdL w A n R vw vl) (hi : OkIx R n ref i) (hx : x ∉ (R i).ls) (hlen : (R i).ls.length ≠ 100) :
    Calls Try.prog 36 #[.slice A n c, .int .i64 ref, .int .i64 x] w (RowsOk (updR R i false ((R i).ls ++ [x])) n w) := by
  have HOK := Lib.hid hi
  have hin := hi.2.1
  have h100 := (hi.1.2 i hi.2.1).2.2.1
  have hl : ((((R i).ls.length : Nat) : Int) == 100) = false := by simp; omega
  have H := Lib.hid (begin_ok A n c R vw vl ref i w hn hc hR hi)
  have hnm := hi.1.1
  have HX := Lib.hid hx
  clear hR hi hx hlen
  go_enter Try.func36, Try.ntmps36
  go_wp2_with fail
  refine H.out.mono ?_
  rintro e w1 ⟨A1, c1, vw1, vl1, rfl, hO, hb⟩
  obtain ⟨g, cap, hv, hbase, hglt, hnc, hcm⟩ := own_form hO.row (by omega)
  injection hv with e1 _ e3
  subst e1 e3
  obtain ⟨wA, wc, hvw, q1, q2, _⟩ := own_any (hO.each i hin false)
  have hvw' : vl1 i = .slice wA (R i).ls.length wc := hvw
  have c0 : w1.cell? ⟨g, i * 3 + 2, none⟩ = some (.slice wA (R i).ls.length wc) := by
    rw [own_cellC hO.row (rwC_len _ _ _) hin (j := 2) (by omega)]
    simp [rwC, hvw']
  have cf : ∀ o, w1.frozen? ⟨g, o, none⟩ = false := fun o => hO.row.frozenAt o
  have HOI := Lib.hid (show OwnI w1 w.heap.size (.slice wA (R i).ls.length wc) (R i).ls by rw [← hvw']; exact hO.each i hin false)
  have HV := Lib.hid (show iv vw1 vl1 i false = .slice wA (R i).ls.length wc from hvw')
  have HO := Lib.hid hO
  have HB := Lib.hid hb
  have hz := hb.size
  have j0 : (0 : Int) ≤ (i : Int) := by omega
  have j1 : (i : Int) < (n : Int) := by omega
  have HNEG := Lib.hid (show ∀ k, (Value.slice wA (R i).ls.length wc).ownBlock = some k → g = k → False from fun k hk e => hO.outer i hin false k (by rw [HV.out]; exact hk) (by rw [← e]; rfl))
  clear hO hb hvw hvw'
  have HWL := Lib.hid (show (R i).ls.length ≤ 1000000 by omega)
  go_wp2_with fail
  refine (containsI_any wA (R i).ls.length wc (lst (R i).ls) x _ (by omega) HOI.out.rd).mono ?_
  rintro e w2 ⟨rfl, rfl⟩
  rw [any_lst, show decide (x ∈ (R i).ls) = false from decide_eq_false HX.out]
  go_wp2_with (at_builtin; go_loud (refine wpList_append_int rfl _ _ rfl w.heap.size (.slice wA (R i).ls.length wc) (R i).ls rfl HOI.out w1.heap.size rfl x rfl HWL.out (by omega) ?_; intro v4 w4 hown4 hgrow4 hat4; obtain ⟨A4, c4, rfl, hn4, hc4, _⟩ := own_any hown4; have d0 := (grown_cell hgrow4 hglt (fun e => HNEG.out _ e.symm rfl)).trans c0; have df : ∀ o, w4.frozen? ⟨g, o, none⟩ = false := (fun o => (grown_frozen hgrow4 hglt (fun e => HNEG.out _ e.symm rfl)).trans (cf o)); clear c0 cf; have HO4 := Lib.hid hown4; have HG4 := Lib.hid hgrow4; have HA4 := Lib.hid hat4; clear hown4 hgrow4 hat4))
  go_ret2
  refine ⟨some ⟨g, 0, none⟩, c1, updW vw1 i false (.slice A4 ((R i).ls ++ [x]).length c4), updX vl1 i false (.slice A4 ((R i).ls ++ [x]).length c4), rfl, ?_, ?_⟩
  · rw [show (R i).ls.length + 1 = ((R i).ls ++ [x]).length by simp]
    refine OwnL.put false _ (by simp) HO.out hin HG4.out (fun k hk => .inl (by rw [HV.out]; exact hk)) HO4.out (fun k hk => ?_)
    rcases HA4.out with h | h
    · exact .inl (by rw [HV.out, ← h]; exact hk)
    · have h' : some k = some (w1.heap.size + 1) := hk.symm.trans h
      injection h' with h'
      exact .inr (by omega)
  · exact below_set (below_grown HB.out (by omega) HG4.out (fun k hk => (HOI.out.blk k hk).1)) hbase
set_option maxRecDepth 100000 in
set_option maxHeartbeats 4000000 in
theorem link_has (A : Option Addr) (n c : Nat) (R : Nat → LR) (vw vl : Nat → Value) (ref x : Int) (i : Nat) (w : World) (hn : n ≤ c) (hc : c ≤ 9223372036854775807) (hR : RdL w A n R vw vl) (hi : OkIx R n ref i) (hx : x ∈ (R i).ls) :
    Calls Try.prog 36 #[.slice A n c, .int .i64 ref, .int .i64 x] w (RowsOk R n w) := by
  have hin := hi.2.1
  have hl100 := (hi.1.2 i hi.2.1).2.2.1
  have H := Lib.hid (begin_ok A n c R vw vl ref i w hn hc hR hi)
  have HX := Lib.hid hx
  clear hR hi hx
  go_enter Try.func36, Try.ntmps36
  go_wp2_with fail
  refine H.out.mono ?_
  rintro e w1 ⟨A1, c1, vw1, vl1, rfl, hO, hb⟩
  obtain ⟨g, cap, hv, hbase, hglt, hnc, hcm⟩ := own_form hO.row (by omega)
  injection hv with e1 _ e3
  subst e1 e3
  obtain ⟨wA, wc, hvw, q1, q2, _⟩ := own_any (hO.each i hin false)
  have hvw' : vl1 i = .slice wA (R i).ls.length wc := hvw
  have c0 : w1.cell? ⟨g, i * 3 + 2, none⟩ = some (.slice wA (R i).ls.length wc) := by
    rw [own_cellC hO.row (rwC_len _ _ _) hin (j := 2) (by omega)]
    simp [rwC, hvw']
  have HOI := Lib.hid (show OwnI w1 w.heap.size (.slice wA (R i).ls.length wc) (R i).ls by rw [← hvw']; exact hO.each i hin false)
  have HO := Lib.hid hO
  have HB := Lib.hid hb
  have j0 : (0 : Int) ≤ (i : Int) := by omega
  have j1 : (i : Int) < (n : Int) := by omega
  clear hO hb hvw hvw'
  go_wp2_with fail
  refine (containsI_any wA (R i).ls.length wc (lst (R i).ls) x _ (by omega) HOI.out.rd).mono ?_
  rintro e w2 ⟨rfl, rfl⟩
  rw [any_lst, show decide (x ∈ (R i).ls) = true from decide_eq_true HX.out]
  go_wp2_with fail
  go_ret2
  exact ⟨_, _, vw1, vl1, rfl, HO.out, HB.out⟩
set_option maxRecDepth 100000 in
set_option maxHeartbeats 4000000 in
theorem link_bad (A : Option Addr) (n c : Nat) (R : Nat → LR) (vw vl : Nat → Value) (ref x : Int) (w : World) (hn : n ≤ c) (hc : c ≤ 9223372036854775807) (hR : RdL w A n R vw vl) (hno : ¬ ∃ i, LinkOk R n ref x i) :
    Calls Try.prog 36 #[.slice A n c, .int .i64 ref, .int .i64 x] w (RowsBad w) := by
  by_cases hi : ∃ i, OkIx R n ref i
  · obtain ⟨i, hi⟩ := hi
    have hx : x ∉ (R i).ls := fun h => hno ⟨i, hi, .inl h⟩
    have h100 : (R i).ls.length = 100 := Decidable.byContradiction fun h => hno ⟨i, hi, .inr h⟩
    have hl : ((((R i).ls.length : Nat) : Int) == 100) = true := by simp; omega
    have hin := hi.2.1
    have hl100 := (hi.1.2 i hi.2.1).2.2.1
    have H := Lib.hid (begin_ok A n c R vw vl ref i w hn hc hR hi)
    have HX := Lib.hid hx
    clear hR hi hno hx
    have H100 := Lib.hid h100
    clear h100
    go_enter Try.func36, Try.ntmps36
    go_wp2_with fail
    refine H.out.mono ?_
    rintro e w1 ⟨A1, c1, vw1, vl1, rfl, hO, hb⟩
    obtain ⟨g, cap, hv, hbase, hglt, hnc, hcm⟩ := own_form hO.row (by omega)
    injection hv with e1 _ e3
    subst e1 e3
    obtain ⟨wA, wc, hvw, q1, q2, _⟩ := own_any (hO.each i hin false)
    have hvw' : vl1 i = .slice wA (R i).ls.length wc := hvw
    have c0 : w1.cell? ⟨g, i * 3 + 2, none⟩ = some (.slice wA (R i).ls.length wc) := by
      rw [own_cellC hO.row (rwC_len _ _ _) hin (j := 2) (by omega)]
      simp [rwC, hvw']
    have HOI := Lib.hid (show OwnI w1 w.heap.size (.slice wA (R i).ls.length wc) (R i).ls by rw [← hvw']; exact hO.each i hin false)
    have HB := Lib.hid hb
    have j0 : (0 : Int) ≤ (i : Int) := by omega
    have j1 : (i : Int) < (n : Int) := by omega
    clear hO hb hvw hvw'
    go_wp2_with fail
    refine (containsI_any wA (R i).ls.length wc (lst (R i).ls) x _ (by omega) HOI.out.rd).mono ?_
    rintro e w2 ⟨rfl, rfl⟩
    rw [any_lst, show decide (x ∈ (R i).ls) = false from decide_eq_false HX.out]
    go_wp2_with fail
    go_ret2
    exact ⟨6, by omega, rfl, HB.out⟩
  · have H := Lib.hid (begin_bad A n c R vw vl ref w hn hc hR hi)
    clear hR hi hno
    go_enter Try.func36, Try.ntmps36
    go_wp2_with fail
    refine H.out.mono ?_
    rintro e w1 ⟨y, hy, _, rfl, hb⟩
    have HY := Lib.hid hy
    have HB := Lib.hid hb
    have e0 : (y != 0) = true := by simpa using hy
    clear hy hb
    go_wp2_with fail
    go_ret2
    exact ⟨y, HY.out, rfl, HB.out⟩
theorem link_ok (A : Option Addr) (n c : Nat) (R : Nat → LR) (vw vl : Nat → Value) (ref x : Int) (i : Nat) (w : World) (hn : n ≤ c) (hc : c ≤ 9223372036854775807) (hR : RdL w A n R vw vl) (hi : LinkOk R n ref x i) :
    Calls Try.prog 36 #[.slice A n c, .int .i64 ref, .int .i64 x] w (RowsOk (linkR R i x) n w) := by
  unfold linkR
  by_cases h : x ∈ (R i).ls
  · rw [if_pos h]
    exact link_has A n c R vw vl ref x i w hn hc hR hi.1 h
  · rw [if_neg h]
    exact link_add A n c R vw vl ref x i w hn hc hR hi.1 h (hi.2.resolve_left h)
end Go.Proofs.Ytcjkibjaajbfmaa
