/- Rows of watches and links: what they read as; link.Check; finding a row. Rows of the call's own; link.copyOf. link.copyOf. link.begin, and finding a row. link.Watch and link.Link. slices.Insert and slices.Delete of one row of watches and links, in a row of the call's own. link.Gone. link.Add, and the closed fact of the laws on links. -/
import Derived.Test.YtjjfglbcikaicaaGreatInts
import Derived.Deep.DeepCutAuto
import Derived.Deep.RegionHeld3
import Derived.Deep.AppendLies
import Derived.Test.YtjjfglbcikaicaaGreatRowOps
import Derived.Test.YtjjfglbcikaicaaGreatFlat
namespace Go.Proofs.YtjjfglbcikaicaaGreat.Li
open Go.RowKit
set_option linter.unusedVariables false
structure LR where
  ref : Int
  ws : List Int
  ls : List Int
/-- a slice that reads as the numbers l -/
def Sl (w : World) (v : Value) (l : List Int) : Prop := ∃ A c, v = .slice A l.length c ∧ l.length ≤ c ∧ c ≤ 9223372036854775807 ∧ (A = none → l.length = 0) ∧ Rd w 1 (tmC (lst l)) A l.length
theorem Sl.below {w w' : World} {v : Value} {l : List Int} (h : Sl w v l) (hb : Below w.heap.size w w') : Sl w' v l := by
  obtain ⟨A, c, e, h1, h2, h3, h4⟩ := h
  exact ⟨A, c, e, h1, h2, h3, h4.below hb⟩
theorem Sl.of_own {w : World} {base : Nat} {v : Value} {l : List Int} (h : OwnI w base v l) : Sl w v l := by
  obtain ⟨A, c, rfl, h1, h2, h3⟩ := own_any h
  exact ⟨A, c, rfl, h1, h2, h3, h.rd⟩
def rwC (R : Nat → LR) (vw vl : Nat → Value) : Nat → List Value := fun k => [.int .i64 (R k).ref, vw k, vl k]
theorem rwC_len (R : Nat → LR) (vw vl : Nat → Value) : ∀ k, (rwC R vw vl k).length = 3 := fun _ => rfl
structure RdL (w : World) (A : Option Addr) (n : Nat) (R : Nat → LR) (vw vl : Nat → Value) : Prop where
  row : Rd w 3 (rwC R vw vl) A n
  each : ∀ k, k < n → Sl w (vw k) (R k).ws ∧ Sl w (vl k) (R k).ls
theorem RdL.below {w w' : World} {A : Option Addr} {n : Nat} {R : Nat → LR} {vw vl : Nat → Value} (h : RdL w A n R vw vl) (hb : Below w.heap.size w w') : RdL w' A n R vw vl :=
  ⟨h.row.below hb, fun k hk => ⟨(h.each k hk).1.below hb, (h.each k hk).2.below hb⟩⟩
def ClearL (l : List Int) : Prop := ∀ q, q < l.length → lst l q ∉ l.take q
def OkR (R : Nat → LR) (k : Nat) : Prop := 1 ≤ (R k).ref ∧ (R k).ws.length ≤ 100 ∧ (R k).ls.length ≤ 100 ∧ (0 < k → (R (k - 1)).ref < (R k).ref) ∧ ClearL (R k).ls
def OkL (R : Nat → LR) (n : Nat) : Prop := n ≤ 100 ∧ ∀ k, k < n → OkR R k
def ChkPost (Ok : Prop) (w : World) (e : Ending) (w' : World) : Prop := ∃ x : Int, e = .returned (.int .i64 x) ∧ (x = 0 ↔ Ok) ∧ Below w.heap.size w w'
theorem take_lst (l : List Int) (q : Nat) (hq : q ≤ l.length) (x : Int) : anyOf (fun k => x == lst l k) q = decide (x ∈ l.take q) := by
  have h := any_lst (l.take q) x
  rw [← h]
  have hl : (l.take q).length = q := by simp; omega
  rw [hl]
  rw [Bool.eq_iff_iff, anyOf_true, anyOf_true]
  constructor
  all_goals
    rintro ⟨k, hk, hp⟩
    refine ⟨k, hk, ?_⟩
    simpa [lst, hk] using hp
set_option maxRecDepth 100000 in
set_option maxHeartbeats 4000000 in
theorem check_any (A : Option Addr) (n c : Nat) (R : Nat → LR) (vw vl : Nat → Value) (w : World) (hn : n ≤ c) (hc : c ≤ 9223372036854775807) (hR : RdL w A n R vw vl) :
    Calls Tryz.prog 105 #[.slice A n c] w (ChkPost (OkL R n) w) := by
  have HR := Lib.hid hR
  clear hR
  by_cases h100 : 100 < n
  · have e6 : decide ((100 : Int) < (n : Int)) = true := by simp; omega
    go_enter Tryz.func105, Tryz.ntmps105
    go_wp2_with fail
    go_ret
    exact ⟨2, rfl, ⟨fun h => by omega, fun h => by have := h.1; omega⟩, Below.refl _ _⟩
  have e6 : decide ((100 : Int) < (n : Int)) = false := by simp; omega
  go_enter Tryz.func105, Tryz.ntmps105
  go_wp2_with fail
  go_loopw [2, 3, 4, 5, 6, 12, 17, 33, 50] (fun _ _ _ _ _ i _ _ _ wr => ∃ k : Nat, k ≤ n ∧ i = .int .i64 k ∧ (∀ j, j < k → OkR R j) ∧ Below w.heap.size w wr) (fun _ _ _ _ _ i _ _ _ _ => n - (intOf i).toNat)
  case atStart => exact ⟨0, Nat.zero_le _, rfl, fun j hj => by omega, Below.refl _ _⟩
  case round =>
    obtain ⟨k, hk, rfl, hlow, hB⟩ := hrel
    have HL := Lib.hid hlow
    have HB := Lib.hid hB
    have hBs := hB.size
    clear hlow
    by_cases hlt : k < n
    · obtain ⟨b, off, rfl, hb, hcell⟩ := HR.out.row (by omega)
      obtain ⟨⟨wA, wc, hvw, w1, w2, w3, hrw⟩, ⟨lA, lc, hvl, l1, l2, l3, hrl⟩⟩ := HR.out.each k hlt
      have c0 : wr.cell? ⟨b, off + k * 3, none⟩ = some (.int .i64 (R k).ref) := (hB.cell (p := ⟨b, _, none⟩) hb).trans (hcell k hlt 0 _ rfl)
      have c1 : wr.cell? ⟨b, off + k * 3 + 1, none⟩ = some (.slice wA (R k).ws.length wc) := (hB.cell (p := ⟨b, _, none⟩) hb).trans (hcell k hlt 1 _ (by simp [rwC, hvw]))
      have c2 : wr.cell? ⟨b, off + k * 3 + 2, none⟩ = some (.slice lA (R k).ls.length lc) := (hB.cell (p := ⟨b, _, none⟩) hb).trans (hcell k hlt 2 _ (by simp [rwC, hvl]))
      obtain ⟨r, hr⟩ : ∃ r, R k = r := ⟨_, rfl⟩
      have HCELL := Lib.hid hcell
      rw [hr] at c0 c1 c2 w1 w3 hrw l1 l3 hrl
      have HK := Lib.hid hr
      have HRL := Lib.hid hrl
      have HB2 := Lib.hid (hB.alloc hBs (.cells #[.int .i64 r.ref, .slice wA r.ws.length wc, .slice lA r.ls.length lc] 132))
      clear hr hcell hvw hvl hrw hrl w3 l3 hB
      have no : ∀ x : Int, x ≠ 0 → ¬ OkR R k → ChkPost (OkL R n) w (.returned (.int .i64 x)) (wr.alloc (.cells #[.int .i64 r.ref, .slice wA r.ws.length wc, .slice lA r.ls.length lc] 132)) := fun x hx hno => ⟨x, rfl, ⟨fun h => absurd h hx, fun h => absurd (h.2 k hlt) hno⟩, HB2.out⟩
      have NO := Lib.hid no
      clear no
      by_cases q1 : r.ref < 1
      · have d1 : decide (r.ref < 1) = true := by simpa using q1
        go_wp2_with fail
        go_ret
        exact NO.out 1 (by omega) (fun h => by have := h.1; rw [HK.out] at this; omega)
      have d1 : decide (r.ref < 1) = false := by simpa using q1
      by_cases q2 : 100 < r.ws.length
      · have d2 : decide ((100 : Int) < (r.ws.length : Int)) = true := by simp; omega
        go_wp2_with fail
        go_ret
        exact NO.out 1 (by omega) (fun h => by have := h.2.1; rw [HK.out] at this; omega)
      have d2 : decide ((100 : Int) < (r.ws.length : Int)) = false := by simp; omega
      by_cases q3 : 100 < r.ls.length
      · have d3 : decide ((100 : Int) < (r.ls.length : Int)) = true := by simp; omega
        go_wp2_with fail
        go_ret
        exact NO.out 1 (by omega) (fun h => by have := h.2.2.1; rw [HK.out] at this; omega)
      have d3 : decide ((100 : Int) < (r.ls.length : Int)) = false := by simp; omega
      have j1 : (k : Int) < (n : Int) := by omega
      have j2 : (0 : Int) ≤ (k : Int) := by omega
      have hbr : b < wr.heap.size := by omega
      obtain ⟨bad, hbad⟩ : ∃ bad : Bool, bad = (decide (0 < k) && decide (r.ref ≤ (R (k - 1)).ref)) := ⟨_, rfl⟩
      have HBAD := Lib.hid hbad
      clear hbad
      go_wp2_with fail
      go_cut [33] (fun x wx => x = .bool bad ∧ ∃ q, wx = (wr.alloc (.cells #[.int .i64 r.ref, .slice wA r.ws.length wc, .slice lA r.ls.length lc] 132)).drewN q)
      case first =>
        by_cases q4 : 0 < k
        · have d4 : decide ((0 : Int) < (k : Int)) = true := by simp; omega
          have p0 : wr.cell? ⟨b, off + (k - 1) * 3, none⟩ = some (.int .i64 (R (k - 1)).ref) := (HB.out.cell (p := ⟨b, _, none⟩) hb).trans (HCELL.out (k - 1) (by omega) 0 _ rfl)
          have i3 : ((k : Int) - 1).toNat = k - 1 := by omega
          have i4 : IntKind.i64.wrap ((k : Int) - 1) = (k : Int) - 1 := by rw [IntWalk.i64_in _ (by omega)]
          have i5 : (0 : Int) ≤ (k : Int) - 1 := by omega
          have i6 : (k : Int) - 1 < (n : Int) := by omega
          have i7 : (1 : Int) ≤ (k : Int) := by omega
          by_cases q5 : r.ref ≤ (R (k - 1)).ref
          · have d5 : decide (r.ref ≤ (R (k - 1)).ref) = true := by simpa using q5
            go_quiet (fail)
            go_wp2_with fail
            go_meet
            exact ⟨by rw [HBAD.out]; simp [q4, q5], nq, rfl⟩
          · have d5 : decide (r.ref ≤ (R (k - 1)).ref) = false := by simpa using q5
            go_quiet (fail)
            go_wp2_with fail
            go_meet
            exact ⟨by rw [HBAD.out]; simp [q5], nq, rfl⟩
        · have d4 : decide ((0 : Int) < (k : Int)) = false := by simp; omega
          go_quiet (fail)
          go_wp2_with fail
          go_meet
          exact ⟨by rw [HBAD.out]; simp [q4], nq, rfl⟩
      case rest =>
      obtain ⟨hx, q, hwc⟩ := hcut
      subst hx hwc
      have HB3 := Lib.hid (below_drewN HB2.out q)
      have e2 : ((wr.alloc (.cells #[.int .i64 r.ref, .slice wA r.ws.length wc, .slice lA r.ls.length lc] 132)).drewN q).cell? ⟨wr.heap.size, 2, none⟩ = some (.slice lA r.ls.length lc) := by simp [go_sem]
      have HRL3 := Lib.hid ((HRL.out.below HB.out |>.alloc (.cells #[.int .i64 r.ref, .slice wA r.ws.length wc, .slice lA r.ls.length lc] 132)).below (below_drewN (Below.refl _ _) q))
      clear c0 c1 c2
      generalize (wr.alloc (.cells #[.int .i64 r.ref, .slice wA r.ws.length wc, .slice lA r.ls.length lc] 132)).drewN q = wx at *
      cases bad with
      | true =>
        go_wp2_with fail
        go_ret
        have hb2 := HBAD.out.symm
        simp only [Bool.and_eq_true, decide_eq_true_eq] at hb2
        exact ⟨21, rfl, ⟨fun h => by omega, fun h => by
          have h1 := (h.2 k hlt).2.2.2.1 hb2.1
          rw [HK.out] at h1
          omega⟩, HB3.out⟩
      | false =>
        have hgood : 0 < k → (R (k - 1)).ref < r.ref := fun h0 => by
          have hb2 := HBAD.out.symm
          simp only [Bool.and_eq_false_iff, decide_eq_false_iff_not] at hb2
          rcases hb2 with hb2 | hb2 <;> omega
        have HG := Lib.hid hgood
        clear hgood
        go_wp2_with fail
        go_loop [2, 5, 6, 50] (fun _ _ _ i => ∃ q : Nat, q ≤ r.ls.length ∧ i = .int .i64 q ∧ (∀ p, p < q → lst r.ls p ∉ r.ls.take p)) (fun _ _ _ i => r.ls.length - (intOf i).toNat)
        case atStart => exact ⟨0, Nat.zero_le _, rfl, fun j hj => by omega⟩
        case round =>
          obtain ⟨p, hp, rfl, hcl⟩ := hrel
          have HCL := Lib.hid hcl
          clear hcl
          by_cases hlp : p < r.ls.length
          · obtain ⟨bl, ol, rfl, hbl, hcl⟩ := HRL3.out (by omega)
            have f0 : wx.cell? ⟨bl, ol + p, none⟩ = some (.int .i64 (lst r.ls p)) := by simpa using hcl p hlp 0 _ rfl
            have k1 : (0 : Int) ≤ (p : Int) := by omega
            have k2 : (p : Int) ≤ (lc : Int) := by omega
            clear hcl
            go_wp2_with fail
            refine (containsI_any (some ⟨bl, ol, none⟩) p lc (lst r.ls) (lst r.ls p) _ (by omega) (HRL3.out.take (by omega))).mono ?_
            rintro e w2 ⟨rfl, rfl⟩
            rw [take_lst r.ls p (by omega)]
            by_cases hmem : lst r.ls p ∈ r.ls.take p
            · have HM := Lib.hid hmem
              rw [show decide (lst r.ls p ∈ r.ls.take p) = true from decide_eq_true hmem]
              clear hmem
              go_wp2_with fail
              go_ret
              exact ⟨5, rfl, ⟨fun h => by omega, fun h => by
                have h1 := (h.2 k hlt).2.2.2.2
                rw [HK.out] at h1
                exact absurd HM.out (h1 p hlp)⟩, HB3.out⟩
            · have HM := Lib.hid hmem
              rw [show decide (lst r.ls p ∈ r.ls.take p) = false from decide_eq_false hmem]
              clear hmem
              go_wp2_with fail
              go_round
              case rel =>
                refine ⟨p + 1, by omega, by go_num, fun j hj => ?_⟩
                by_cases e : j = p
                · rw [e]; exact HM.out
                · exact HCL.out j (by omega)
              case measure => simp [intOf]; omega
          · have HCL2 := Lib.hid (show ClearL r.ls from fun j hj => HCL.out j (by omega))
            obtain rfl : p = r.ls.length := by omega
            go_wp2_with fail
            go_roundw
            case rel =>
              refine ⟨k + 1, by omega, by go_num, fun j hj => ?_, HB3.out⟩
              by_cases e : j = k
              · subst e
                unfold OkR
                rw [HK.out]
                exact ⟨by omega, by omega, by omega, HG.out, HCL2.out⟩
              · exact HL.out j (by omega)
            case measure => simp [intOf]; omega
    · obtain rfl : k = n := by omega
      clear hB
      go_wp2_with fail
      go_ret
      exact ⟨0, rfl, ⟨fun _ => ⟨by omega, HL.out⟩, fun _ => rfl⟩, HB.out⟩
end Go.Proofs.YtjjfglbcikaicaaGreat.Li
namespace Go.Proofs.YtjjfglbcikaicaaGreat.Li
open Go.RowKit
set_option linter.unusedVariables false
theorem infoRow : (Tryz.prog.info? 132).map (fun i => (i.zero, i.size, i.bytes)) = some (some (.agg #[.int .i64 0, .slice none 0 0, .slice none 0 0]), 3, 56) := by kernel_rfl
/-- the two inner slices of each row, by a side -/
def iv (vw vl : Nat → Value) (k : Nat) (s : Bool) : Value := if s then vw k else vl k
def il (R : Nat → LR) (k : Nat) (s : Bool) : List Int := if s then (R k).ws else (R k).ls
structure OwnL (w : World) (base : Nat) (v : Value) (n : Nat) (R : Nat → LR) (vw vl : Nat → Value) : Prop where
  row : w.ownsRow base 132 3 v n (flatC (rwC R vw vl) n)
  each : ∀ k, k < n → ∀ s, OwnI w base (iv vw vl k s) (il R k s)
  apart : ∀ i j, i < n → j < n → ∀ s t, ¬ (i = j ∧ s = t) → ∀ k, (iv vw vl i s).ownBlock = some k → (iv vw vl j t).ownBlock ≠ some k
  outer : ∀ i, i < n → ∀ s k, (iv vw vl i s).ownBlock = some k → v.ownBlock ≠ some k
theorem OwnL.grown {w w' : World} {base : Nat} {v : Value} {n : Nat} {R : Nat → LR} {vw vl : Nat → Value} {row : Option Nat} (h : OwnL w base v n R vw vl) (hg : w.grownBy w' row) (h1 : ∀ k, v.ownBlock = some k → row ≠ some k)
    (h2 : ∀ i, i < n → ∀ s k, (iv vw vl i s).ownBlock = some k → row ≠ some k) : OwnL w' base v n R vw vl :=
  ⟨own_grown h.row hg h1, fun i hi s => (h.each i hi s).grown hg (h2 i hi s), h.apart, h.outer⟩
theorem OwnL.below {w w' : World} {base : Nat} {v : Value} {n : Nat} {R : Nat → LR} {vw vl : Nat → Value} (h : OwnL w base v n R vw vl) (hb : Below w.heap.size w w') : OwnL w' base v n R vw vl :=
  h.grown (grown_below (g := none) hb) (fun k _ e => by cases e) (fun i _ s k _ e => by cases e)
theorem OwnL.mono {w : World} {base base' : Nat} {v : Value} {n : Nat} {R : Nat → LR} {vw vl : Nat → Value} (h : OwnL w base v n R vw vl) (hb : base' ≤ base) : OwnL w base' v n R vw vl :=
  ⟨own_mono h.row hb, fun i hi s => (h.each i hi s).mono hb, h.apart, h.outer⟩
theorem OwnL.nil (w : World) (base : Nat) (R : Nat → LR) (vw vl : Nat → Value) : OwnL w base (.slice none 0 0) 0 R vw vl := ⟨World.ownsRow_nil _ _ _ _, fun i hi => by omega, fun i j hi => by omega, fun i hi => by omega⟩
theorem OwnL.rd {w : World} {base c : Nat} {A : Option Addr} {n : Nat} {R : Nat → LR} {vw vl : Nat → Value} (h : OwnL w base (.slice A n c) n R vw vl) : RdL w A n R vw vl :=
  ⟨Rd.of_own (rwC_len _ _ _) h.row, fun k hk => ⟨Sl.of_own (h.each k hk true), Sl.of_own (h.each k hk false)⟩⟩
def updV (vs : Nat → Value) (i : Nat) (x : Value) : Nat → Value := fun k => if k = i then x else vs k
/-- one row more -/
theorem OwnL.snoc {wr w1 w2 : World} {base : Nat} {v v' v1 v2 : Value} {n : Nat} {R : Nat → LR} {vw vl : Nat → Value} {o : Obj} (h : OwnL wr base v n R vw vl) (hbase : base ≤ wr.heap.size) (hb1 : Below wr.heap.size wr w1)
    (h1 : OwnI w1 wr.heap.size v1 (R n).ws) (h2 : OwnI w1 wr.heap.size v2 (R n).ls) (hap : ∀ k, v1.ownBlock = some k → v2.ownBlock ≠ some k) (hg : (w1.alloc o).grownBy w2 v.ownBlock)
    (hat : v'.ownBlock = v.ownBlock ∨ v'.ownBlock = some (w1.heap.size + 1)) (hown : w2.ownsRow base 132 3 v' (n + 1) (flatC (rwC R vw vl) n ++ [.int .i64 (R n).ref, v1, v2])) : OwnL w2 base v' (n + 1) R (updV vw n v1) (updV vl n v2) := by
  have hlt : ∀ i, i < n → ∀ s k, (iv vw vl i s).ownBlock = some k → k < wr.heap.size := fun i hi s k hk => ((h.each i hi s).blk k hk).2
  have hvlt : ∀ k, v.ownBlock = some k → k < wr.heap.size := fun k hk => (h.row.lt k hk).2
  have hs1 := hb1.size
  have g2 : w1.grownBy w2 v.ownBlock := grown_step (World.grownBy_alloc w1 o _) hg (.inl rfl)
  have hold : ∀ i, i < n → ∀ s, iv (updV vw n v1) (updV vl n v2) i s = iv vw vl i s := fun i hi s => by
    unfold iv updV
    simp only [if_neg (show ¬ i = n by omega)]
  have hnew : ∀ s, iv (updV vw n v1) (updV vl n v2) n s = if s then v1 else v2 := fun s => by
    unfold iv updV
    simp
  have hn12 : ∀ (s : Bool) k, (if s then v1 else v2).ownBlock = some k → wr.heap.size ≤ k ∧ k < w1.heap.size := fun s k hk => by
    cases s
    · exact h2.blk k hk
    · exact h1.blk k hk
  refine ⟨?_, fun i hi s => ?_, fun i j hi hj s t hst k hk => ?_, fun i hi s k hk => ?_⟩
  · have e : flatC (rwC R vw vl) n ++ [.int .i64 (R n).ref, v1, v2] = flatC (rwC R (updV vw n v1) (updV vl n v2)) (n + 1) := by
      rw [flatC]
      congr 1
      · exact flatC_congr fun k hk => by unfold rwC updV; simp only [if_neg (show ¬ k = n by omega)]
      · simp [rwC, updV]
    rw [← e]
    exact hown
  · by_cases e : i = n
    · subst e
      rw [hnew]
      have hsd : OwnI w1 wr.heap.size (if s then v1 else v2) (il R i s) := by
        cases s
        · exact h2
        · exact h1
      exact (hsd.mono hbase).grown g2 (fun k hk e => by have := (hn12 s k hk).1; have := hvlt k e; omega)
    · rw [hold i (by omega)]
      exact ((h.each i (by omega) s).below hb1).grown g2 (fun k hk => h.outer i (by omega) s k hk)
  · by_cases e : i = n
    · subst e
      rw [hnew] at hk
      by_cases e2 : j = i
      · subst e2
        rw [hnew]
        cases s <;> cases t
        · exact absurd ⟨rfl, rfl⟩ hst
        · exact fun e => hap k e hk
        · exact hap k hk
        · exact absurd ⟨rfl, rfl⟩ hst
      · rw [hold j (by omega)]
        intro e3
        have := (hn12 s k hk).1
        have := hlt j (by omega) t k e3
        omega
    · rw [hold i (by omega)] at hk
      by_cases e2 : j = n
      · subst e2
        rw [hnew]
        intro e3
        have := (hn12 t k e3).1
        have := hlt i (by omega) s k hk
        omega
      · rw [hold j (by omega)]
        exact h.apart i j (by omega) (by omega) s t hst k hk
  · by_cases e : i = n
    · subst e
      rw [hnew] at hk
      have hk1 := hn12 s k hk
      rcases hat with ha | ha
      · rw [ha]; intro e; have := hvlt k e; omega
      · rw [ha]; intro e; injection e with e; omega
    · rw [hold i (by omega)] at hk
      have hk1 := hlt i (by omega) s k hk
      rcases hat with ha | ha
      · rw [ha]; exact h.outer i (by omega) s k hk
      · rw [ha]; intro e; injection e with e; omega
end Go.Proofs.YtjjfglbcikaicaaGreat.Li
namespace Go.Proofs.YtjjfglbcikaicaaGreat.Li
open Go.RowKit
set_option linter.unusedVariables false
def CopyL (n : Nat) (R : Nat → LR) (w : World) (e : Ending) (w' : World) : Prop := ∃ v vw vl, e = .returned v ∧ OwnL w' w.heap.size v n R vw vl ∧ Below w.heap.size w w'
/-- a copy of a slice of numbers -/
theorem cloneSl (A : Option Addr) (c : Nat) (l : List Int) (w : World) (hS : Sl w (.slice A l.length c) l) (hl : l.length ≤ 1000000) :
    Calls Tryz.prog 98 #[.slice A l.length c] w fun e w' => ∃ A' c', e = .returned (.slice A' l.length c') ∧ OwnI w' w.heap.size (.slice A' l.length c') l ∧ Below w.heap.size w w' := by
  obtain ⟨A0, c0, e, h1, h2, h3, h4⟩ := hS
  injection e with e1 e2 e3
  subst e1 e3
  refine (cloneInt A l.length c (tmC (lst l)) w h4 (tmC_len _) (tmC_one _) h3 (by omega)).mono ?_
  rintro e w1 ⟨v1, rfl, hown1, hb1⟩
  rw [flatC_lst] at hown1
  obtain ⟨A1, c1, rfl, _, _, _⟩ := own_any hown1
  exact ⟨A1, c1, rfl, hown1, hb1⟩
theorem cells3_one (a : Int) (A B : Option Addr) (n m c d : Nat) : ∀ u ∈ ([.int .i64 a, .slice A n c, .slice B m d] : List Value), u.oneCell' = true := by
  intro u hu
  simp at hu
  rcases hu with rfl | rfl | rfl <;> rfl
theorem cell_new3 (W : World) (a b c : Value) (t : TypeId) (n : Nat) (hn : W.heap.size = n) : ∀ j u, [a, b, c][j]? = some u → (W.alloc (.cells #[a, b, c] t)).cell? ((⟨n, 0, none⟩ : Addr).add j) = some u := by
  intro j u hu
  rw [Addr.add_lit, World.cell?_alloc_at (w := W) #[a, b, c] t n (0 + j) hn.symm]
  simpa using hu
set_option maxRecDepth 100000 in
set_option maxHeartbeats 4000000 in
theorem copy_any (A : Option Addr) (n c : Nat) (R : Nat → LR) (vw vl : Nat → Value) (w : World) (hn : n ≤ c) (hc : c ≤ 9223372036854775807) (h8 : n ≤ 100) (hR : RdL w A n R vw vl) (hl : ∀ k, k < n → (R k).ws.length ≤ 100 ∧ (R k).ls.length ≤ 100) :
    Calls Tryz.prog 107 #[.slice A n c] w (CopyL n R w) := by
  obtain ⟨i0, hi, hz0, hz1, hz2⟩ := info_parts infoRow
  have HR := Lib.hid hR
  have HL := Lib.hid hl
  clear hR hl
  go_enter Tryz.func107, Tryz.ntmps107
  go_wp2_with fail
  go_loopw [3, 5, 8] (fun o _ x wr => ∃ (i : Nat) (v : Value) (vw' vl' : Nat → Value), i ≤ n ∧ x = .int .i64 i ∧ v = o ∧ OwnL wr w.heap.size v i R vw' vl' ∧ Below w.heap.size w wr) (fun _ _ x _ => n - (intOf x).toNat)
  case atStart => exact ⟨0, _, vw, vl, Nat.zero_le _, rfl, rfl, OwnL.nil _ _ _ _ _, Below.refl _ _⟩
  case round =>
    obtain ⟨i, v, vw', vl', hin, rfl, rfl, hO, hB⟩ := hrel
    have HO := Lib.hid hO
    have HB := Lib.hid hB
    have hBs := hB.size
    obtain ⟨Ao, co, rfl, hnco, hcmo, _⟩ := own_any hO.row
    by_cases hlt : i < n
    · obtain ⟨b, off, rfl, hb, hcell⟩ := HR.out.row (by omega)
      obtain ⟨hSw, hSl⟩ := HR.out.each i hlt
      have hSw' := hSw
      have hSl' := hSl
      obtain ⟨wA, wc, hvw, w1, w2, w3, hrw⟩ := hSw'
      obtain ⟨lA, lc, hvl, l1, l2, l3, hrl⟩ := hSl'
      have c0 : wr.cell? ⟨b, off + i * 3, none⟩ = some (.int .i64 (R i).ref) := (hB.cell (p := ⟨b, _, none⟩) hb).trans (hcell i hlt 0 _ rfl)
      have c1 : wr.cell? ⟨b, off + i * 3 + 1, none⟩ = some (.slice wA (R i).ws.length wc) := (hB.cell (p := ⟨b, _, none⟩) hb).trans (hcell i hlt 1 _ (by simp [rwC, hvw]))
      have c2 : wr.cell? ⟨b, off + i * 3 + 2, none⟩ = some (.slice lA (R i).ls.length lc) := (hB.cell (p := ⟨b, _, none⟩) hb).trans (hcell i hlt 2 _ (by simp [rwC, hvl]))
      rw [hvw] at hSw
      rw [hvl] at hSl
      have HSW := Lib.hid (hSw.below hB)
      have HSL := Lib.hid (hSl.below hB)
      obtain ⟨hl1, hl2⟩ := HL.out i hlt
      have HRI := Lib.hid (show ∀ x, rwC R (updV vw' i x) vl' i = rwC R (updV vw' i x) vl' i from fun _ => rfl)
      obtain ⟨r, hr⟩ : ∃ r, R i = r := ⟨_, rfl⟩
      rw [hr] at c0 c1 c2 HSW HSL hl1 hl2
      have HK := Lib.hid hr
      clear hr hO hB hcell hvw hvl hrw hrl w3 l3 hSw hSl w1 w2 l1 l2 HRI
      obtain ⟨ref, ws, ls⟩ := r
      dsimp only at *
      obtain ⟨W0, hW0⟩ : ∃ W0, W0 = wr.alloc (.cells #[.int .i64 ref, .slice wA ws.length wc, .slice lA ls.length lc] 132) := ⟨_, rfl⟩
      go_wp2_with fail
      rw [← hW0]
      have hz0' : W0.heap.size = wr.heap.size + 1 := by rw [hW0]; simp
      have hb0 : Below wr.heap.size wr W0 := by rw [hW0]; exact (Below.refl _ _).alloc (Nat.le_refl _) _
      have q0 : W0.drew.cell? ⟨wr.heap.size, 0, none⟩ = some (.int .i64 ref) := by show W0.cell? _ = _; rw [hW0]; simp
      have q1 : W0.drew.cell? ⟨wr.heap.size, 1, none⟩ = some (.slice wA ws.length wc) := by show W0.cell? _ = _; rw [hW0]; simp
      have q2 : W0.drew.cell? ⟨wr.heap.size, 2, none⟩ = some (.slice lA ls.length lc) := by show W0.cell? _ = _; rw [hW0]; simp
      have HB0 := Lib.hid (show Below wr.heap.size wr W0.drew from hb0.drew)
      have HSW0 := Lib.hid (HSW.out.below HB0.out)
      have HSL0 := Lib.hid (HSL.out.below HB0.out)
      have HZ0 := Lib.hid (show W0.drew.heap.size = wr.heap.size + 1 from hz0')
      clear hW0 hz0' hb0 c0 c1 c2
      go_region_held3 (fun w' => w'.cell? ⟨wr.heap.size, 0, none⟩ = some (.int .i64 ref) ∧ w'.cell? ⟨wr.heap.size, 1, none⟩ = some (.slice wA ws.length wc) ∧ w'.cell? ⟨wr.heap.size, 2, none⟩ = some (.slice lA ls.length lc))
        (first | exact ⟨q0, q1, q2⟩ | exact ⟨u0, u1, u2⟩ | exact ⟨v0, v1, v2⟩ | exact ⟨x0, x1, x2⟩ | go_keep)
        (first
          | (go_at_call 98; refine (cloneSl wA wc ws W0.drew HSW0.out (by omega)).mono ?_; rintro e w1 ⟨A1, a1, rfl, hown1, hb1⟩; have HX1 := Lib.hid hown1; have HY1 := Lib.hid hb1; have hs1 := hb1.size; have u0 := (hb1.cell (p := ⟨_, _, none⟩) (by show wr.heap.size < W0.drew.heap.size; rw [HZ0.out]; omega)).trans q0; have u1 := (hb1.cell (p := ⟨_, _, none⟩) (by show wr.heap.size < W0.drew.heap.size; rw [HZ0.out]; omega)).trans q1; have u2 := (hb1.cell (p := ⟨_, _, none⟩) (by show wr.heap.size < W0.drew.heap.size; rw [HZ0.out]; omega)).trans q2; clear hown1 hb1)
          | (go_at_call 98; refine (cloneSl lA lc ls w1 (HSL0.out.below HY1.out) (by omega)).mono ?_; rintro e w2 ⟨A2, a2, rfl, hown2, hb2⟩; have HO2 := Lib.hid (hown2.mono (show wr.heap.size ≤ w1.heap.size by have := HZ0.out; omega)); have HO1 := Lib.hid ((HX1.out.below hb2).mono (show wr.heap.size ≤ W0.drew.heap.size by have := HZ0.out; omega)); have HAP := Lib.hid (show ∀ k, (Value.slice A1 ws.length a1).ownBlock = some k → (Value.slice A2 ls.length a2).ownBlock ≠ some k from fun k hk1 hk2 => by have h1 := HX1.out.blk k hk1; have h2 := hown2.blk k hk2; omega); have HBB := Lib.hid ((HB0.out.trans (HY1.out.mono (show wr.heap.size ≤ W0.drew.heap.size by have := HZ0.out; omega))).trans (hb2.mono (show wr.heap.size ≤ w1.heap.size by have := HZ0.out; omega))); have hs2 := hb2.size; have v0 := (hb2.cell (p := ⟨_, _, none⟩) (by show wr.heap.size < w1.heap.size; have := HZ0.out; omega)).trans u0; have v1 := (hb2.cell (p := ⟨_, _, none⟩) (by show wr.heap.size < w1.heap.size; have := HZ0.out; omega)).trans u1; have v2 := (hb2.cell (p := ⟨_, _, none⟩) (by show wr.heap.size < w1.heap.size; have := HZ0.out; omega)).trans u2; clear hown2 hb2)
          | (go_at_call 98; refine (cloneSl lA lc ls W0.drew HSL0.out (by omega)).mono ?_; rintro e w1 ⟨A2, a2, rfl, hown1, hb1⟩; have HX2 := Lib.hid hown1; have HY1 := Lib.hid hb1; have hs1 := hb1.size; have u0 := (hb1.cell (p := ⟨_, _, none⟩) (by show wr.heap.size < W0.drew.heap.size; rw [HZ0.out]; omega)).trans q0; have u1 := (hb1.cell (p := ⟨_, _, none⟩) (by show wr.heap.size < W0.drew.heap.size; rw [HZ0.out]; omega)).trans q1; have u2 := (hb1.cell (p := ⟨_, _, none⟩) (by show wr.heap.size < W0.drew.heap.size; rw [HZ0.out]; omega)).trans q2; clear hown1 hb1)
          | (go_at_call 98; refine (cloneSl wA wc ws w1 (HSW0.out.below HY1.out) (by omega)).mono ?_; rintro e w2 ⟨A1, a1, rfl, hown2, hb2⟩; have HO1 := Lib.hid (hown2.mono (show wr.heap.size ≤ w1.heap.size by have := HZ0.out; omega)); have HO2 := Lib.hid ((HX2.out.below hb2).mono (show wr.heap.size ≤ W0.drew.heap.size by have := HZ0.out; omega)); have HAP := Lib.hid (show ∀ k, (Value.slice A1 ws.length a1).ownBlock = some k → (Value.slice A2 ls.length a2).ownBlock ≠ some k from fun k hk1 hk2 => by have h1 := HX2.out.blk k hk2; have h2 := hown2.blk k hk1; omega); have HBB := Lib.hid ((HB0.out.trans (HY1.out.mono (show wr.heap.size ≤ W0.drew.heap.size by have := HZ0.out; omega))).trans (hb2.mono (show wr.heap.size ≤ w1.heap.size by have := HZ0.out; omega))); have hs2 := hb2.size; have v0 := (hb2.cell (p := ⟨_, _, none⟩) (by show wr.heap.size < w1.heap.size; have := HZ0.out; omega)).trans u0; have v1 := (hb2.cell (p := ⟨_, _, none⟩) (by show wr.heap.size < w1.heap.size; have := HZ0.out; omega)).trans u1; have v2 := (hb2.cell (p := ⟨_, _, none⟩) (by show wr.heap.size < w1.heap.size; have := HZ0.out; omega)).trans u2; clear hown2 hb2)
          | (refine step_append_lies _ (by rfl) _ _ _ (by rfl) w.heap.size 132 i0 _ 3 56 Tryz.underlying101 hi hz0 hz1 hz2 rfl (by omega) (.slice Ao i co) i (flatC (rwC R vw' vl') i) (by rfl) ((own_keep HO.out.row HBB.out).alloc _) ⟨w2.heap.size, 0, none⟩ 1 1 [.int .i64 ref, .slice A1 ws.length a1, .slice A2 ls.length a2] (by rfl) (by rfl) (cell_new3 _ _ _ _ _ _ rfl) (cells3_one _ _ _ _ _ _ _) (by omega) (by unfold maxLen; omega) (by omega) (by simp; have := HZ0.out; omega) (w2.heap.size + 1) (by simp) ?_; intro g cap w5 hown5 hgrow5 hat5 hlt5; have hne : some wr.heap.size ≠ (Value.slice Ao i co).ownBlock := (fun e => by have := (HO.out.row.lt _ e.symm).2; omega); have x0 := (grown_cell (b := wr.heap.size) (o := 0) hgrow5 (by simp; have := HZ0.out; omega) hne).trans ((World.cell?_alloc_lt _ _ ⟨wr.heap.size, 0, none⟩ (by show wr.heap.size < w2.heap.size; have := HZ0.out; omega)).trans v0); have x1 := (grown_cell (b := wr.heap.size) (o := 1) hgrow5 (by simp; have := HZ0.out; omega) hne).trans ((World.cell?_alloc_lt _ _ ⟨wr.heap.size, 1, none⟩ (by show wr.heap.size < w2.heap.size; have := HZ0.out; omega)).trans v1); have x2 := (grown_cell (b := wr.heap.size) (o := 2) hgrow5 (by simp; have := HZ0.out; omega) hne).trans ((World.cell?_alloc_lt _ _ ⟨wr.heap.size, 2, none⟩ (by show wr.heap.size < w2.heap.size; have := HZ0.out; omega)).trans v2); have HO5 := Lib.hid hown5; have HG5 := Lib.hid hgrow5; have HA5 := Lib.hid hat5; clear hown5 hgrow5 hat5 hne))
      all_goals
        go_wp2_with fail
        refine ⟨⟨i + 1, _, updV vw' i (.slice A1 ws.length a1), updV vl' i (.slice A2 ls.length a2), by omega, by go_num, rfl, ?_, ?_⟩, by simp [intOf]; omega⟩
        · refine HO.out.snoc hBs HBB.out (by rw [HK.out]; exact HO1.out) (by rw [HK.out]; exact HO2.out) HAP.out HG5.out ?_ (by rw [HK.out]; exact HO5.out)
          rcases HA5.out with h | h
          · exact .inl h.symm
          · exact .inr (by rw [h]; rfl)
        · exact below_grown ((HB.out.trans (HBB.out.mono hBs)).alloc (by have := HBB.out.size; omega) _) (by simp; have := HBB.out.size; omega) HG5.out (fun k hk => (HO.out.row.lt k hk).1)
    · obtain rfl : i = n := by omega
      clear hO hB
      go_wp2_with fail
      go_ret
      exact ⟨_, vw', vl', rfl, HO.out, HB.out⟩
end Go.Proofs.YtjjfglbcikaicaaGreat.Li
namespace Go.Proofs.YtjjfglbcikaicaaGreat.Li
open Go.RowKit
set_option linter.unusedVariables false
set_option maxHeartbeats 400000 in
theorem ixRow_any (I : World → Prop) (A : Option Addr) (b off n c f : Nat) (cp : Array Value) (g0 g1 g2 : Nat → Value) (p : Nat → Bool) (w : World) (hn : n ≤ 9223372036854775807)
    (hA : 0 < n → A = some ⟨b, off, none⟩) (he : Enters Tryz.prog f)
    (hc : ∀ W, I W → ∀ k, k < n → W.cell? ⟨b, off + k * 3, none⟩ = some (g0 k) ∧ W.cell? ⟨b, off + k * 3 + 1, none⟩ = some (g1 k) ∧ W.cell? ⟨b, off + k * 3 + 2, none⟩ = some (g2 k))
    (hf : ∀ W, I W → ∀ k, k < n → Calls Tryz.prog f (#[.agg #[g0 k, g1 k, g2 k]] ++ cp) W fun e W' => e = .returned (.bool (p k)) ∧ I W') (hw : I w) :
    Calls Tryz.prog 95 #[.slice A n c, .func (.func f) #[] cp] w fun e w' => e = .returned (.int .i64 (ixOf p n)) ∧ I w' := by
  have HC := Lib.hid hc
  have HF := Lib.hid hf
  have HA := Lib.hid hA
  have HE := Lib.hid he
  clear hc hf hA he
  go_enter Tryz.func95, Tryz.ntmps95
  go_wp2_with fail
  go_loopw [5, 4, 8] (fun _ _ i wr => ∃ k : Nat, k ≤ n ∧ i = .int .i64 k ∧ (∀ j, j < k → p j = false) ∧ I wr) (fun _ _ i _ => n - (intOf i).toNat)
  case atStart => exact ⟨0, Nat.zero_le _, rfl, fun j hj => by omega, hw⟩
  case round =>
    obtain ⟨k, hk, rfl, hlow, hI⟩ := hrel
    have HL := Lib.hid hlow
    clear hlow
    by_cases hlt : k < n
    · obtain rfl := HA.out (by omega)
      obtain ⟨hc0, hc1, hc2⟩ := HC.out wr hI k hlt
      have hen := HE.out (#[.agg #[g0 k, g1 k, g2 k]] ++ cp) wr
      go_wp2_with fail
      refine (HF.out wr hI k hlt).mono ?_
      rintro e W' ⟨rfl, hI'⟩
      by_cases hp : p k = true
      · clear hc0 hc1 hc2 hen
        go_wp2_with fail
        go_ret
        exact ⟨ret_int (ixOf_found hlt hp HL.out).symm, hI'⟩
      · have hp' : p k = false := by simpa using hp
        clear hc0 hc1 hc2 hen hp
        go_wp2_with fail
        go_roundw
        case rel =>
          refine ⟨k + 1, by omega, by go_num, fun j hj => ?_, hI'⟩
          by_cases e : j = k
          · rw [e]; exact hp'
          · exact HL.out j (by omega)
        case measure => simp [intOf]; omega
    · go_wp2_with fail
      go_ret
      exact ⟨ret_int (ixOf_none fun j hj => HL.out j (by omega)).symm, hI⟩

theorem ixRow_rd (A : Option Addr) (n c f : Nat) (cp : Array Value) (g0 g1 g2 : Nat → Value) (p : Nat → Bool) (w : World) (hn : n ≤ 9223372036854775807)
    (hR : Rd w 3 (fun k => [g0 k, g1 k, g2 k]) A n) (he : Enters Tryz.prog f)
    (hf : ∀ W, Below w.heap.size w W → ∀ k, k < n → Calls Tryz.prog f (#[.agg #[g0 k, g1 k, g2 k]] ++ cp) W fun e W' => e = .returned (.bool (p k)) ∧ Below w.heap.size w W') :
    Calls Tryz.prog 95 #[.slice A n c, .func (.func f) #[] cp] w fun e w' => e = .returned (.int .i64 (ixOf p n)) ∧ Below w.heap.size w w' := by
  by_cases h0 : 0 < n
  · obtain ⟨b, off, hA, hb, hc⟩ := hR h0
    refine ixRow_any (fun W => Below w.heap.size w W) A b off n c f cp g0 g1 g2 p w hn (fun _ => hA) he (fun W hW k hk => ?_) hf (Below.refl _ _)
    have hcell : ∀ o, W.cell? ⟨b, o, none⟩ = w.cell? ⟨b, o, none⟩ := fun o => hW.cell (p := ⟨b, o, none⟩) hb
    simp only [hcell]
    exact ⟨by simpa using hc k hk 0 _ rfl, by simpa using hc k hk 1 _ rfl, by simpa using hc k hk 2 _ rfl⟩
  · exact ixRow_any (fun W => Below w.heap.size w W) A 0 0 n c f cp g0 g1 g2 p w hn (fun h => absurd h h0) he (fun W hW k hk => by omega) hf (Below.refl _ _)

def refB (R : Nat → LR) (ref : Int) : Nat → Bool := fun k => (R k).ref == ref
/-- a closure that compares a row's reference with a captured one -/
def EqRow (fn : Nat) : Prop := ∀ (a : Int) (A B : Option Addr) (n m c d : Nat) (ref : Int) (b : Nat) (w : World), b < w.heap.size → w.cell? ⟨b, 0, none⟩ = some (.int .i64 ref) →
  Calls Tryz.prog fn #[.agg #[.int .i64 a, .slice A n c, .slice B m d], .pointer (some ⟨b, 0, none⟩)] w fun e w' => e = .returned (.bool (a == ref)) ∧ Below w.heap.size w w'
theorem ix_row (fn : Nat) (hen : Enters Tryz.prog fn) (hf : EqRow fn) (A : Option Addr) (n c : Nat) (R : Nat → LR) (vw vl : Nat → Value) (ref : Int) (b : Nat) (w : World) (hn : n ≤ 9223372036854775807) (hR : RdL w A n R vw vl) (hb : b < w.heap.size) (hc : w.cell? ⟨b, 0, none⟩ = some (.int .i64 ref)) :
    Calls Tryz.prog 95 #[.slice A n c, .func (.func fn) #[] #[.pointer (some ⟨b, 0, none⟩)]] w fun e w' => e = .returned (.int .i64 (ixOf (refB R ref) n)) ∧ Below w.heap.size w w' :=
  ixRow_rd A n c fn #[.pointer (some ⟨b, 0, none⟩)] (fun k => .int .i64 (R k).ref) vw vl (refB R ref) w hn hR.row hen
    fun W hW k hk => by
      obtain ⟨⟨wA, wc, hvw, _⟩, ⟨lA, lc, hvl, _⟩⟩ := hR.each k hk
      rw [hvw, hvl]
      exact (hf (R k).ref wA lA _ _ wc lc ref b W (by have := hW.size; omega) ((hW.cell (p := ⟨_, _, none⟩) hb).trans hc)).mono fun e W' ⟨he, hb'⟩ => ⟨he, hW.trans (hb'.mono hW.size)⟩
theorem begin1_cl : EqRow 125 := fun a A B n m c d ref b w hb hc => by
  go_enter Tryz.func125, Tryz.ntmps125
  go_wp2_with fail
  go_ret
  exact ⟨rfl, (Below.refl _ _).alloc (Nat.le_refl _) _⟩
theorem begin1_enters : Enters Tryz.prog 125 := fun _ _ => by kernel_rfl
def OkIx (R : Nat → LR) (n : Nat) (ref : Int) (i : Nat) : Prop := OkL R n ∧ i < n ∧ (R i).ref = ref
theorem OkL.mono {R : Nat → LR} {n : Nat} (h : OkL R n) : ∀ i j, i < j → j < n → (R i).ref < (R j).ref := by
  intro i j
  induction j with
  | zero => intro h; omega
  | succ j ih =>
    intro hij hj
    have h1 := (h.2 (j + 1) hj).2.2.2.1 (by omega)
    rw [Nat.add_sub_cancel] at h1
    by_cases e : i = j
    · subst e; exact h1
    · have := ih (by omega) (by omega)
      omega
theorem OkIx.uniq {R : Nat → LR} {n i j : Nat} {ref : Int} (h : OkIx R n ref i) (h' : OkIx R n ref j) : i = j := by
  rcases Nat.lt_trichotomy i j with hlt | e | hlt
  · have := h.1.mono i j hlt h'.2.1
    rw [h.2.2, h'.2.2] at this
    omega
  · exact e
  · have := h.1.mono j i hlt h.2.1
    rw [h.2.2, h'.2.2] at this
    omega
theorem OkIx.ix {R : Nat → LR} {n i : Nat} {ref : Int} (h : OkIx R n ref i) : ixOf (refB R ref) n = i := by
  refine ixOf_found h.2.1 (by simp [refB, h.2.2]) (fun j hj => ?_)
  have := h.1.mono j i hj h.2.1
  rw [h.2.2] at this
  simp [refB]
  omega
theorem ix_none {R : Nat → LR} {n : Nat} {ref : Int} (h : OkL R n) (hno : ¬ ∃ i, OkIx R n ref i) : ixOf (refB R ref) n = -1 := by
  refine ixOf_none (fun j hj => ?_)
  rcases hp : refB R ref j with _ | _
  · rfl
  · exact absurd ⟨j, h, hj, by simpa [refB] using hp⟩ hno
def BeginBad (P : Prop) (w : World) (e : Ending) (w' : World) : Prop := ∃ x : Int, x ≠ 0 ∧ (P → x = 4) ∧ e = .returned (.tuple #[.slice none 0 0, .int .i64 0, .int .i64 x]) ∧ Below w.heap.size w w'
def BeginOk (R : Nat → LR) (n i : Nat) (w : World) (e : Ending) (w' : World) : Prop := ∃ A c vw vl, e = .returned (.tuple #[.slice A n c, .int .i64 i, .int .i64 0]) ∧ OwnL w' w.heap.size (.slice A n c) n R vw vl ∧ Below w.heap.size w w'
set_option maxHeartbeats 2000000 in
theorem begin_bad (A : Option Addr) (n c : Nat) (R : Nat → LR) (vw vl : Nat → Value) (ref : Int) (w : World) (hn : n ≤ c) (hc : c ≤ 9223372036854775807) (hR : RdL w A n R vw vl) (hno : ¬ ∃ i, OkIx R n ref i) :
    Calls Tryz.prog 91 #[.slice A n c, .int .i64 ref] w (BeginBad (OkL R n) w) := by
  have HR := Lib.hid hR
  have HNO := Lib.hid hno
  clear hR hno
  go_enter Tryz.func91, Tryz.ntmps91
  go_wp2_with fail
  refine (check_any A n c R vw vl _ hn hc (HR.out.below ((Below.refl _ _).alloc (Nat.le_refl _) _))).mono ?_
  rintro e w1 ⟨x, rfl, hx, hb⟩
  have HB1 := Lib.hid (((Below.refl w.heap.size w).alloc (Nat.le_refl _) (.cells #[.int .i64 ref] 3)).trans (hb.mono (by simp)))
  have c0 : w1.cell? ⟨w.heap.size, 0, none⟩ = some (.int .i64 ref) := (hb.cell (p := ⟨_, _, none⟩) (by simp)).trans (by simp [go_sem])
  have hz : w.heap.size < w1.heap.size := by have := hb.size; simp at this; omega
  have HX := Lib.hid hx
  clear hb hx
  by_cases hx0 : x = 0
  · subst hx0
    have HK := Lib.hid (HX.out.1 rfl)
    have HI := Lib.hid (ix_none HK.out HNO.out)
    go_wp2_with fail
    refine (ix_row _ begin1_enters begin1_cl A n c R vw vl ref w.heap.size _ (by omega) (HR.out.below HB1.out) hz c0).mono ?_
    rintro e w2 ⟨rfl, hb2⟩
    rw [HI.out]
    have HB2 := Lib.hid (HB1.out.trans (hb2.mono HB1.out.size))
    clear hb2 c0
    go_wp2_with fail
    go_ret3
    exact ⟨4, by omega, fun _ => rfl, rfl, HB2.out⟩
  · have e0 : (x != 0) = true := by simpa using hx0
    have HX0 := Lib.hid hx0
    clear hx0
    go_wp2_with fail
    go_ret3
    exact ⟨x, HX0.out, fun h => absurd (HX.out.2 h) HX0.out, rfl, HB1.out⟩
set_option maxHeartbeats 2000000 in
theorem begin_ok (A : Option Addr) (n c : Nat) (R : Nat → LR) (vw vl : Nat → Value) (ref : Int) (i : Nat) (w : World) (hn : n ≤ c) (hc : c ≤ 9223372036854775807) (hR : RdL w A n R vw vl) (hi : OkIx R n ref i) :
    Calls Tryz.prog 91 #[.slice A n c, .int .i64 ref] w (BeginOk R n i w) := by
  have HR := Lib.hid hR
  have HOK := Lib.hid hi
  have h100 := hi.1.1
  clear hR hi
  go_enter Tryz.func91, Tryz.ntmps91
  go_wp2_with fail
  refine (check_any A n c R vw vl _ hn hc (HR.out.below ((Below.refl _ _).alloc (Nat.le_refl _) _))).mono ?_
  rintro e w1 ⟨x, rfl, hx, hb⟩
  have HB1 := Lib.hid (((Below.refl w.heap.size w).alloc (Nat.le_refl _) (.cells #[.int .i64 ref] 3)).trans (hb.mono (by simp)))
  have c0 : w1.cell? ⟨w.heap.size, 0, none⟩ = some (.int .i64 ref) := (hb.cell (p := ⟨_, _, none⟩) (by simp)).trans (by simp [go_sem])
  have hz : w.heap.size < w1.heap.size := by have := hb.size; simp at this; omega
  obtain rfl : x = 0 := hx.2 HOK.out.1
  have HI := Lib.hid HOK.out.ix
  clear hb hx
  go_wp2_with fail
  refine (ix_row _ begin1_enters begin1_cl A n c R vw vl ref w.heap.size _ (by omega) (HR.out.below HB1.out) hz c0).mono ?_
  rintro e w2 ⟨rfl, hb2⟩
  rw [HI.out]
  have HB2 := Lib.hid (HB1.out.trans (hb2.mono HB1.out.size))
  have i0 : ¬ ((i : Int) < 0) := by omega
  clear hb2 c0
  go_wp2_with fail
  refine (copy_any A n c R vw vl _ hn hc h100 (HR.out.below HB2.out) (fun k hk => ⟨(HOK.out.1.2 k hk).2.1, (HOK.out.1.2 k hk).2.2.1⟩)).mono ?_
  rintro e w3 ⟨v, vw', vl', rfl, hO, hb3⟩
  obtain ⟨A', c', rfl, _, _, _⟩ := own_any hO.row
  have HO := Lib.hid (hO.mono HB2.out.size)
  have HB3 := Lib.hid (HB2.out.trans (hb3.mono HB2.out.size))
  clear hO hb3
  go_wp2_with fail
  go_ret3
  exact ⟨A', c', vw', vl', rfl, HO.out, HB3.out⟩
end Go.Proofs.YtjjfglbcikaicaaGreat.Li
namespace Go.Proofs.YtjjfglbcikaicaaGreat.Li
open Go.RowKit
set_option linter.unusedVariables false
def updR (R : Nat → LR) (i : Nat) (s : Bool) (l : List Int) : Nat → LR := fun k => if k = i then (if s then ⟨(R k).ref, l, (R k).ls⟩ else ⟨(R k).ref, (R k).ws, l⟩) else R k
def updW (vw : Nat → Value) (i : Nat) (s : Bool) (x : Value) : Nat → Value := if s then updV vw i x else vw
def updX (vl : Nat → Value) (i : Nat) (s : Bool) (x : Value) : Nat → Value := if s then vl else updV vl i x
theorem iv_upd (vw vl : Nat → Value) (i : Nat) (s : Bool) (x : Value) (j : Nat) (t : Bool) : iv (updW vw i s x) (updX vl i s x) j t = if j = i ∧ t = s then x else iv vw vl j t := by
  cases s <;> cases t <;> by_cases e : j = i <;> simp [iv, updW, updX, updV, e]
theorem il_upd (R : Nat → LR) (i : Nat) (s : Bool) (l : List Int) (j : Nat) (t : Bool) : il (updR R i s l) j t = if j = i ∧ t = s then l else il R j t := by
  cases s <;> cases t <;> by_cases e : j = i <;> simp [il, updR, e]
theorem updR_ref (R : Nat → LR) (i : Nat) (s : Bool) (l : List Int) (k : Nat) : (updR R i s l k).ref = (R k).ref := by
  unfold updR; split
  · split <;> rfl
  · rfl
theorem rwC_upd (R : Nat → LR) (vw vl : Nat → Value) (i : Nat) (s : Bool) (l : List Int) (x : Value) (k : Nat) : rwC (updR R i s l) (updW vw i s x) (updX vl i s x) k = if k = i then (rwC R vw vl i).set (if s then 1 else 2) x else rwC R vw vl k := by
  unfold rwC
  rw [updR_ref]
  by_cases e : k = i
  · subst e
    cases s <;> simp [updW, updX, updV]
  · cases s <;> simp [updW, updX, updV, e]
theorem OwnL.put {w w2 : World} {base g cap n i : Nat} {R : Nat → LR} {vw vl : Nat → Value} {v' : Value} {l' : List Int} {row : Option Nat} (s : Bool) (o : Nat) (ho : o = i * 3 + if s then 1 else 2) (h : OwnL w base (.slice (some ⟨g, 0, none⟩) n cap) n R vw vl) (hi : i < n) (hg : w.grownBy w2 row)
    (hrow : ∀ k, row = some k → (iv vw vl i s).ownBlock = some k ∨ w.heap.size ≤ k) (hO : OwnI w2 base v' l') (hat : ∀ k, v'.ownBlock = some k → (iv vw vl i s).ownBlock = some k ∨ w.heap.size ≤ k) :
    OwnL (w2.setCell ⟨g, o, none⟩ v') base (.slice (some ⟨g, 0, none⟩) n cap) n (updR R i s l') (updW vw i s v') (updX vl i s v') := by
  subst ho
  have hgl := (own_lt h.row).2
  have hlt : ∀ j, j < n → ∀ t k, (iv vw vl j t).ownBlock = some k → k < w.heap.size := fun j hj t k hk => ((h.each j hj t).blk k hk).2
  have hneg : ∀ j, j < n → ∀ t k, (iv vw vl j t).ownBlock = some k → k ≠ g := fun j hj t k hk e => h.outer j hj t k hk (by rw [e]; rfl)
  have hv'g : ∀ k, v'.ownBlock = some k → k ≠ g := fun k hk e => by
    rcases hat k hk with h1 | h1
    · exact hneg i hi s k h1 e
    · omega
  have hrow2 : w2.ownsRow base 132 3 (.slice (some ⟨g, 0, none⟩) n cap) n (flatC (rwC R vw vl) n) := own_grown h.row hg (fun k hk e => by
    have hk' : g = k := Option.some.inj hk
    rcases hrow k e with h1 | h1
    · exact hneg i hi s k h1 hk'.symm
    · omega)
  have hset := own_setC hrow2 (rwC_len _ _ _) (k := i) (j := if s then 1 else 2) (by split <;> omega) v' (G' := rwC (updR R i s l') (updW vw i s v') (updX vl i s v')) (fun k _ => rwC_upd R vw vl i s l' v' k)
  refine ⟨hset.1, fun j hj t => ?_, fun a b ha hb t u hab k hk => ?_, fun j hj t k hk => ?_⟩
  · rw [iv_upd, il_upd]
    by_cases e : j = i ∧ t = s
    · rw [if_pos e, if_pos e]
      exact hO.grown hset.2 (fun k hk e => hv'g k hk (by injection e with e; exact e.symm))
    · rw [if_neg e, if_neg e]
      refine ((h.each j hj t).grown hg (fun k hk e2 => ?_)).grown hset.2 (fun k hk e2 => hneg j hj t k hk (by injection e2 with e2; exact e2.symm))
      rcases hrow k e2 with h1 | h1
      · exact h.apart j i hj hi t s e k hk h1
      · have := hlt j hj t k hk; omega
  · rw [iv_upd] at hk ⊢
    by_cases e : a = i ∧ t = s
    · rw [if_pos e] at hk
      have e' : ¬ (b = i ∧ u = s) := fun h2 => hab ⟨e.1.trans h2.1.symm, e.2.trans h2.2.symm⟩
      rw [if_neg e']
      intro e2
      rcases hat k hk with h1 | h1
      · exact h.apart i b hi hb s u (fun h2 => e' ⟨h2.1.symm, h2.2.symm⟩) k h1 e2
      · have := hlt b hb u k e2; omega
    · rw [if_neg e] at hk
      by_cases e3 : b = i ∧ u = s
      · rw [if_pos e3]
        intro e2
        rcases hat k e2 with h1 | h1
        · exact h.apart a i ha hi t s e k hk h1
        · have := hlt a ha t k hk; omega
      · rw [if_neg e3]
        exact h.apart a b ha hb t u hab k hk
  · intro e2
    have hk' : g = k := Option.some.inj e2
    rw [iv_upd] at hk
    by_cases e : j = i ∧ t = s
    · rw [if_pos e] at hk
      exact hv'g k hk hk'.symm
    · rw [if_neg e] at hk
      exact hneg j hj t k hk hk'.symm
def RowsBad (w : World) (e : Ending) (w' : World) : Prop := ∃ x : Int, x ≠ 0 ∧ e = .returned (.tuple #[.slice none 0 0, .int .i64 x]) ∧ Below w.heap.size w w'
def RowsOk (R : Nat → LR) (n : Nat) (w : World) (e : Ending) (w' : World) : Prop := ∃ A c vw vl, e = .returned (.tuple #[.slice A n c, .int .i64 0]) ∧ OwnL w' w.heap.size (.slice A n c) n R vw vl ∧ Below w.heap.size w w'
def WatchOk (R : Nat → LR) (n : Nat) (ref : Int) (i : Nat) : Prop := OkIx R n ref i ∧ (R i).ws.length ≠ 100
set_option maxRecDepth 100000 in
set_option maxHeartbeats 4000000 in
theorem watch_ok (A : Option Addr) (n c : Nat) (R : Nat → LR) (vw vl : Nat → Value) (x ref : Int) (i : Nat) (w : World) (hn : n ≤ c) (hc : c ≤ 9223372036854775807) (hR : RdL w A n R vw vl) (hi : WatchOk R n ref i) :
    Calls Tryz.prog 74 #[.slice A n c, .int .i64 x, .int .i64 ref] w (RowsOk (updR R i true ((R i).ws ++ [x])) n w) := by
  have HOK := Lib.hid hi
  have hin := hi.1.2.1
  have h100 := (hi.1.1.2 i hi.1.2.1).2.1
  have hl : ((((R i).ws.length : Nat) : Int) == 100) = false := by have := hi.2; simp; omega
  have H := Lib.hid (begin_ok A n c R vw vl ref i w hn hc hR hi.1)
  have hnm := hi.1.1.1
  clear hR hi
  go_enter Tryz.func74, Tryz.ntmps74
  go_wp2_with fail
  refine H.out.mono ?_
  rintro e w1 ⟨A1, c1, vw1, vl1, rfl, hO, hb⟩
  obtain ⟨g, cap, hv, hbase, hglt, hnc, hcm⟩ := own_form hO.row (by omega)
  injection hv with e1 _ e3
  subst e1 e3
  obtain ⟨wA, wc, hvw, q1, q2, _⟩ := own_any (hO.each i hin true)
  have hvw' : vw1 i = .slice wA (R i).ws.length wc := hvw
  have c0 : w1.cell? ⟨g, i * 3 + 1, none⟩ = some (.slice wA (R i).ws.length wc) := by
    rw [own_cellC hO.row (rwC_len _ _ _) hin (j := 1) (by omega)]
    simp [rwC, hvw']
  have cf : ∀ o, w1.frozen? ⟨g, o, none⟩ = false := fun o => hO.row.frozenAt o
  have HOI := Lib.hid (show OwnI w1 w.heap.size (.slice wA (R i).ws.length wc) (R i).ws by rw [← hvw']; exact hO.each i hin true)
  have HV := Lib.hid (show iv vw1 vl1 i true = .slice wA (R i).ws.length wc from hvw')
  have HO := Lib.hid hO
  have HB := Lib.hid hb
  have hz := hb.size
  have j0 : (0 : Int) ≤ (i : Int) := by omega
  have j1 : (i : Int) < (n : Int) := by omega
  have HNEG := Lib.hid (show ∀ k, (Value.slice wA (R i).ws.length wc).ownBlock = some k → g = k → False from fun k hk e => hO.outer i hin true k (by rw [HV.out]; exact hk) (by rw [← e]; rfl))
  clear hO hb hvw hvw'
  have HWL := Lib.hid (show (R i).ws.length ≤ 1000000 by omega)
  go_wp2_with (at_builtin; go_loud (refine wpList_append_int rfl _ _ rfl w.heap.size (.slice wA (R i).ws.length wc) (R i).ws rfl HOI.out w1.heap.size rfl x rfl HWL.out (by omega) ?_; intro v4 w4 hown4 hgrow4 hat4; obtain ⟨A4, c4, rfl, hn4, hc4, _⟩ := own_any hown4; have d0 := (grown_cell hgrow4 hglt (fun e => HNEG.out _ e.symm rfl)).trans c0; have df : ∀ o, w4.frozen? ⟨g, o, none⟩ = false := (fun o => (grown_frozen hgrow4 hglt (fun e => HNEG.out _ e.symm rfl)).trans (cf o)); clear c0 cf; have HO4 := Lib.hid hown4; have HG4 := Lib.hid hgrow4; have HA4 := Lib.hid hat4; clear hown4 hgrow4 hat4))
  go_ret2
  refine ⟨some ⟨g, 0, none⟩, c1, updW vw1 i true (.slice A4 ((R i).ws ++ [x]).length c4), updX vl1 i true (.slice A4 ((R i).ws ++ [x]).length c4), rfl, ?_, ?_⟩
  · rw [show (R i).ws.length + 1 = ((R i).ws ++ [x]).length by simp]
    refine OwnL.put true _ (by simp) HO.out hin HG4.out (fun k hk => .inl (by rw [HV.out]; exact hk)) HO4.out (fun k hk => ?_)
    rcases HA4.out with h | h
    · exact .inl (by rw [HV.out, ← h]; exact hk)
    · have h' : some k = some (w1.heap.size + 1) := hk.symm.trans h
      injection h' with h'
      exact .inr (by omega)
  · exact below_set (below_grown HB.out (by omega) HG4.out (fun k hk => (HOI.out.blk k hk).1)) hbase
theorem watch_bad (A : Option Addr) (n c : Nat) (R : Nat → LR) (vw vl : Nat → Value) (x ref : Int) (w : World) (hn : n ≤ c) (hc : c ≤ 9223372036854775807) (hR : RdL w A n R vw vl) (hno : ¬ ∃ i, WatchOk R n ref i) :
    Calls Tryz.prog 74 #[.slice A n c, .int .i64 x, .int .i64 ref] w (RowsBad w) := by
  by_cases hi : ∃ i, OkIx R n ref i
  · obtain ⟨i, hi⟩ := hi
    have h100 : (R i).ws.length = 100 := Decidable.byContradiction fun h => hno ⟨i, hi, h⟩
    have hl : ((((R i).ws.length : Nat) : Int) == 100) = true := by simp; omega
    have hin := hi.2.1
    have H := Lib.hid (begin_ok A n c R vw vl ref i w hn hc hR hi)
    clear hR hi hno
    have H100 := Lib.hid h100
    clear h100
    go_enter Tryz.func74, Tryz.ntmps74
    go_wp2_with fail
    refine H.out.mono ?_
    rintro e w1 ⟨A1, c1, vw1, vl1, rfl, hO, hb⟩
    obtain ⟨g, cap, hv, hbase, hglt, hnc, hcm⟩ := own_form hO.row (by omega)
    injection hv with e1 _ e3
    subst e1 e3
    obtain ⟨wA, wc, hvw, q1, q2, _⟩ := own_any (hO.each i hin true)
    have hvw' : vw1 i = .slice wA (R i).ws.length wc := hvw
    have c0 : w1.cell? ⟨g, i * 3 + 1, none⟩ = some (.slice wA (R i).ws.length wc) := by
      rw [own_cellC hO.row (rwC_len _ _ _) hin (j := 1) (by omega)]
      simp [rwC, hvw']
    have HB := Lib.hid hb
    have j0 : (0 : Int) ≤ (i : Int) := by omega
    have j1 : (i : Int) < (n : Int) := by omega
    clear hO hb hvw hvw'
    go_wp2_with fail
    go_ret2
    exact ⟨6, by omega, rfl, HB.out⟩
  · have H := Lib.hid (begin_bad A n c R vw vl ref w hn hc hR hi)
    clear hR hi hno
    go_enter Tryz.func74, Tryz.ntmps74
    go_wp2_with fail
    refine H.out.mono ?_
    rintro e w1 ⟨y, hy, _, rfl, hb⟩
    have HY := Lib.hid hy
    have HB := Lib.hid hb
    have e0 : (y != 0) = true := by simpa using hy
    clear hy hb
    go_wp2_with fail
    go_ret2
    exact ⟨y, HY.out, rfl, HB.out⟩
def LinkOk (R : Nat → LR) (n : Nat) (ref x : Int) (i : Nat) : Prop := OkIx R n ref i ∧ (x ∈ (R i).ls ∨ (R i).ls.length ≠ 100)
def linkR (R : Nat → LR) (i : Nat) (x : Int) : Nat → LR := if x ∈ (R i).ls then R else updR R i false ((R i).ls ++ [x])
set_option maxRecDepth 100000 in
set_option maxHeartbeats 4000000 in
theorem link_add (A : Option Addr) (n c : Nat) (R : Nat → LR) (vw vl : Nat → Value) (ref x : Int) (i : Nat) (w : World) (hn : n ≤ c) (hc : c ≤ 9223372036854775807) (hR : RdL w A n R vw vl) (hi : OkIx R n ref i) (hx : x ∉ (R i).ls) (hlen : (R i).ls.length ≠ 100) :
    Calls Tryz.prog 75 #[.slice A n c, .int .i64 ref, .int .i64 x] w (RowsOk (updR R i false ((R i).ls ++ [x])) n w) := by
  have HOK := Lib.hid hi
  have hin := hi.2.1
  have h100 := (hi.1.2 i hi.2.1).2.2.1
  have hl : ((((R i).ls.length : Nat) : Int) == 100) = false := by simp; omega
  have H := Lib.hid (begin_ok A n c R vw vl ref i w hn hc hR hi)
  have hnm := hi.1.1
  have HX := Lib.hid hx
  clear hR hi hx hlen
  go_enter Tryz.func75, Tryz.ntmps75
  go_wp2_with fail
  refine H.out.mono ?_
  rintro e w1 ⟨A1, c1, vw1, vl1, rfl, hO, hb⟩
  obtain ⟨g, cap, hv, hbase, hglt, hnc, hcm⟩ := own_form hO.row (by omega)
  injection hv with e1 _ e3
  subst e1 e3
  obtain ⟨wA, wc, hvw, q1, q2, _⟩ := own_any (hO.each i hin false)
  have hvw' : vl1 i = .slice wA (R i).ls.length wc := hvw
  have c0 : w1.cell? ⟨g, i * 3 + 2, none⟩ = some (.slice wA (R i).ls.length wc) := by
    rw [own_cellC hO.row (rwC_len _ _ _) hin (j := 2) (by omega)]
    simp [rwC, hvw']
  have cf : ∀ o, w1.frozen? ⟨g, o, none⟩ = false := fun o => hO.row.frozenAt o
  have HOI := Lib.hid (show OwnI w1 w.heap.size (.slice wA (R i).ls.length wc) (R i).ls by rw [← hvw']; exact hO.each i hin false)
  have HV := Lib.hid (show iv vw1 vl1 i false = .slice wA (R i).ls.length wc from hvw')
  have HO := Lib.hid hO
  have HB := Lib.hid hb
  have hz := hb.size
  have j0 : (0 : Int) ≤ (i : Int) := by omega
  have j1 : (i : Int) < (n : Int) := by omega
  have HNEG := Lib.hid (show ∀ k, (Value.slice wA (R i).ls.length wc).ownBlock = some k → g = k → False from fun k hk e => hO.outer i hin false k (by rw [HV.out]; exact hk) (by rw [← e]; rfl))
  clear hO hb hvw hvw'
  have HWL := Lib.hid (show (R i).ls.length ≤ 1000000 by omega)
  go_wp2_with fail
  refine (containsI_any wA (R i).ls.length wc (lst (R i).ls) x _ (by omega) HOI.out.rd).mono ?_
  rintro e w2 ⟨rfl, rfl⟩
  rw [any_lst, show decide (x ∈ (R i).ls) = false from decide_eq_false HX.out]
  go_wp2_with (at_builtin; go_loud (refine wpList_append_int rfl _ _ rfl w.heap.size (.slice wA (R i).ls.length wc) (R i).ls rfl HOI.out w1.heap.size rfl x rfl HWL.out (by omega) ?_; intro v4 w4 hown4 hgrow4 hat4; obtain ⟨A4, c4, rfl, hn4, hc4, _⟩ := own_any hown4; have d0 := (grown_cell hgrow4 hglt (fun e => HNEG.out _ e.symm rfl)).trans c0; have df : ∀ o, w4.frozen? ⟨g, o, none⟩ = false := (fun o => (grown_frozen hgrow4 hglt (fun e => HNEG.out _ e.symm rfl)).trans (cf o)); clear c0 cf; have HO4 := Lib.hid hown4; have HG4 := Lib.hid hgrow4; have HA4 := Lib.hid hat4; clear hown4 hgrow4 hat4))
  go_ret2
  refine ⟨some ⟨g, 0, none⟩, c1, updW vw1 i false (.slice A4 ((R i).ls ++ [x]).length c4), updX vl1 i false (.slice A4 ((R i).ls ++ [x]).length c4), rfl, ?_, ?_⟩
  · rw [show (R i).ls.length + 1 = ((R i).ls ++ [x]).length by simp]
    refine OwnL.put false _ (by simp) HO.out hin HG4.out (fun k hk => .inl (by rw [HV.out]; exact hk)) HO4.out (fun k hk => ?_)
    rcases HA4.out with h | h
    · exact .inl (by rw [HV.out, ← h]; exact hk)
    · have h' : some k = some (w1.heap.size + 1) := hk.symm.trans h
      injection h' with h'
      exact .inr (by omega)
  · exact below_set (below_grown HB.out (by omega) HG4.out (fun k hk => (HOI.out.blk k hk).1)) hbase
set_option maxRecDepth 100000 in
set_option maxHeartbeats 4000000 in
theorem link_has (A : Option Addr) (n c : Nat) (R : Nat → LR) (vw vl : Nat → Value) (ref x : Int) (i : Nat) (w : World) (hn : n ≤ c) (hc : c ≤ 9223372036854775807) (hR : RdL w A n R vw vl) (hi : OkIx R n ref i) (hx : x ∈ (R i).ls) :
    Calls Tryz.prog 75 #[.slice A n c, .int .i64 ref, .int .i64 x] w (RowsOk R n w) := by
  have hin := hi.2.1
  have hl100 := (hi.1.2 i hi.2.1).2.2.1
  have H := Lib.hid (begin_ok A n c R vw vl ref i w hn hc hR hi)
  have HX := Lib.hid hx
  clear hR hi hx
  go_enter Tryz.func75, Tryz.ntmps75
  go_wp2_with fail
  refine H.out.mono ?_
  rintro e w1 ⟨A1, c1, vw1, vl1, rfl, hO, hb⟩
  obtain ⟨g, cap, hv, hbase, hglt, hnc, hcm⟩ := own_form hO.row (by omega)
  injection hv with e1 _ e3
  subst e1 e3
  obtain ⟨wA, wc, hvw, q1, q2, _⟩ := own_any (hO.each i hin false)
  have hvw' : vl1 i = .slice wA (R i).ls.length wc := hvw
  have c0 : w1.cell? ⟨g, i * 3 + 2, none⟩ = some (.slice wA (R i).ls.length wc) := by
    rw [own_cellC hO.row (rwC_len _ _ _) hin (j := 2) (by omega)]
    simp [rwC, hvw']
  have HOI := Lib.hid (show OwnI w1 w.heap.size (.slice wA (R i).ls.length wc) (R i).ls by rw [← hvw']; exact hO.each i hin false)
  have HO := Lib.hid hO
  have HB := Lib.hid hb
  have j0 : (0 : Int) ≤ (i : Int) := by omega
  have j1 : (i : Int) < (n : Int) := by omega
  clear hO hb hvw hvw'
  go_wp2_with fail
  refine (containsI_any wA (R i).ls.length wc (lst (R i).ls) x _ (by omega) HOI.out.rd).mono ?_
  rintro e w2 ⟨rfl, rfl⟩
  rw [any_lst, show decide (x ∈ (R i).ls) = true from decide_eq_true HX.out]
  go_wp2_with fail
  go_ret2
  exact ⟨_, _, vw1, vl1, rfl, HO.out, HB.out⟩
set_option maxRecDepth 100000 in
set_option maxHeartbeats 4000000 in
theorem link_bad (A : Option Addr) (n c : Nat) (R : Nat → LR) (vw vl : Nat → Value) (ref x : Int) (w : World) (hn : n ≤ c) (hc : c ≤ 9223372036854775807) (hR : RdL w A n R vw vl) (hno : ¬ ∃ i, LinkOk R n ref x i) :
    Calls Tryz.prog 75 #[.slice A n c, .int .i64 ref, .int .i64 x] w (RowsBad w) := by
  by_cases hi : ∃ i, OkIx R n ref i
  · obtain ⟨i, hi⟩ := hi
    have hx : x ∉ (R i).ls := fun h => hno ⟨i, hi, .inl h⟩
    have h100 : (R i).ls.length = 100 := Decidable.byContradiction fun h => hno ⟨i, hi, .inr h⟩
    have hl : ((((R i).ls.length : Nat) : Int) == 100) = true := by simp; omega
    have hin := hi.2.1
    have hl100 := (hi.1.2 i hi.2.1).2.2.1
    have H := Lib.hid (begin_ok A n c R vw vl ref i w hn hc hR hi)
    have HX := Lib.hid hx
    clear hR hi hno hx
    have H100 := Lib.hid h100
    clear h100
    go_enter Tryz.func75, Tryz.ntmps75
    go_wp2_with fail
    refine H.out.mono ?_
    rintro e w1 ⟨A1, c1, vw1, vl1, rfl, hO, hb⟩
    obtain ⟨g, cap, hv, hbase, hglt, hnc, hcm⟩ := own_form hO.row (by omega)
    injection hv with e1 _ e3
    subst e1 e3
    obtain ⟨wA, wc, hvw, q1, q2, _⟩ := own_any (hO.each i hin false)
    have hvw' : vl1 i = .slice wA (R i).ls.length wc := hvw
    have c0 : w1.cell? ⟨g, i * 3 + 2, none⟩ = some (.slice wA (R i).ls.length wc) := by
      rw [own_cellC hO.row (rwC_len _ _ _) hin (j := 2) (by omega)]
      simp [rwC, hvw']
    have HOI := Lib.hid (show OwnI w1 w.heap.size (.slice wA (R i).ls.length wc) (R i).ls by rw [← hvw']; exact hO.each i hin false)
    have HB := Lib.hid hb
    have j0 : (0 : Int) ≤ (i : Int) := by omega
    have j1 : (i : Int) < (n : Int) := by omega
    clear hO hb hvw hvw'
    go_wp2_with fail
    refine (containsI_any wA (R i).ls.length wc (lst (R i).ls) x _ (by omega) HOI.out.rd).mono ?_
    rintro e w2 ⟨rfl, rfl⟩
    rw [any_lst, show decide (x ∈ (R i).ls) = false from decide_eq_false HX.out]
    go_wp2_with fail
    go_ret2
    exact ⟨6, by omega, rfl, HB.out⟩
  · have H := Lib.hid (begin_bad A n c R vw vl ref w hn hc hR hi)
    clear hR hi hno
    go_enter Tryz.func75, Tryz.ntmps75
    go_wp2_with fail
    refine H.out.mono ?_
    rintro e w1 ⟨y, hy, _, rfl, hb⟩
    have HY := Lib.hid hy
    have HB := Lib.hid hb
    have e0 : (y != 0) = true := by simpa using hy
    clear hy hb
    go_wp2_with fail
    go_ret2
    exact ⟨y, HY.out, rfl, HB.out⟩
theorem link_ok (A : Option Addr) (n c : Nat) (R : Nat → LR) (vw vl : Nat → Value) (ref x : Int) (i : Nat) (w : World) (hn : n ≤ c) (hc : c ≤ 9223372036854775807) (hR : RdL w A n R vw vl) (hi : LinkOk R n ref x i) :
    Calls Tryz.prog 75 #[.slice A n c, .int .i64 ref, .int .i64 x] w (RowsOk (linkR R i x) n w) := by
  unfold linkR
  by_cases h : x ∈ (R i).ls
  · rw [if_pos h]
    exact link_has A n c R vw vl ref x i w hn hc hR hi.1 h
  · rw [if_neg h]
    exact link_add A n c R vw vl ref x i w hn hc hR hi.1 h (hi.2.resolve_left h)
end Go.Proofs.YtjjfglbcikaicaaGreat.Li
namespace Go.Proofs.YtjjfglbcikaicaaGreat.Li
open Go.RowKit
set_option linter.unusedVariables false
theorem infoR : (Tryz.prog.info? 132).map (fun i => (i.zero, i.size, i.bytes)) = some (some (.agg #[.int .i64 0, .slice none 0 0, .slice none 0 0]), 3, 56) := by kernel_rfl
theorem infoR_size : (Tryz.prog.info? 132).map (·.size) = some 3 := by kernel_rfl
theorem infoR_zero : ∀ w, (zeroValue 132).run Tryz.prog w = .ok (.agg #[.int .i64 0, .slice none 0 0, .slice none 0 0]) w := fun w => by kernel_rfl
theorem infoR_sizeOf : ∀ w, (Go.sizeOf 132).run Tryz.prog w = .ok 3 w := fun w => by kernel_rfl
def InsPost (base g n i : Nat) (xs r : List Value) (w : World) (e : Ending) (w' : World) : Prop :=
  ∃ v, e = .returned v ∧ w'.ownsRow base 132 3 v (n + 1) (xs.take (i * 3) ++ r ++ xs.drop (i * 3)) ∧ w.grownBy w' (some g)
theorem ins_list (c xs r : List Value) (a s N : Nat) (hx : c.take N = xs) (hN : N + s ≤ c.length) (ha : a ≤ N) (hr : r.length = s) :
    ((c.take (a + s) ++ xs.drop a ++ c.drop (a + s + (xs.drop a).length)).take a ++ r ++ (c.take (a + s) ++ xs.drop a ++ c.drop (a + s + (xs.drop a).length)).drop (a + r.length)).take (N + s) = xs.take a ++ r ++ xs.drop a := by
  have h1 : (c.take (a + s)).length = a + s := by simp; omega
  have hxl : xs.length = N := by rw [← hx]; simp; omega
  have e1 : (c.take (a + s) ++ xs.drop a ++ c.drop (a + s + (xs.drop a).length)).take a = xs.take a := by
    rw [List.append_assoc, List.take_append_of_le_length (by omega), List.take_take, ← hx, List.take_take]
    congr 1
    omega
  have e2 : (c.take (a + s) ++ xs.drop a ++ c.drop (a + s + (xs.drop a).length)).drop (a + r.length) = xs.drop a ++ c.drop (a + s + (xs.drop a).length) := by
    rw [hr, List.append_assoc, List.drop_append_of_le_length (by omega), List.drop_eq_nil_of_le (by omega), List.nil_append]
  rw [e1, e2, ← List.append_assoc]
  have h2 : (xs.take a ++ r ++ xs.drop a).length = N + s := by simp; omega
  rw [List.take_append_of_le_length (by omega), List.take_of_length_le (by omega)]
set_option maxHeartbeats 4000000 in
set_option maxRecDepth 100000 in
/-- Insert of one element where there is room -/
theorem ins_shift (base g cap n i vb : Nat) (xs r : List Value) (w : World) (hi : i < n) (hroom : n + 1 ≤ cap) (hown : w.ownsRow base 132 3 (.slice (some ⟨g, 0, none⟩) n cap) n xs)
    (hvb : w.heap[vb]? = some (.cells r.toArray 132 (0, 0))) (hne : vb ≠ g) (hr : r.length = 3) (h1x : ∀ v ∈ xs, v.oneCell' = true) (h1r : ∀ v ∈ r, v.oneCell' = true) :
    Calls Tryz.prog 106 #[.slice (some ⟨g, 0, none⟩) n cap, .int .i64 i, .slice (some ⟨vb, 0, none⟩) 1 1] w (InsPost base g n i xs r w) := by
  rcases hown.2 with ⟨h', _⟩ | ⟨g', cap', cur, hv, hb, hg, hnc, hcm, hcs, ht⟩
  · cases h'
  obtain ⟨rfl, rfl⟩ : g = g' ∧ cap = cap' := by injection hv with e1 e2 e3; injection e1 with e1; injection e1 with e1; exact ⟨e1, e3⟩
  unfold maxLen at hcm
  have hxl := hown.1
  have hx : ∀ j v, xs[j]? = some v → w.cell? ⟨g, j, none⟩ = some v := fun j v hj => by
    rw [cell_of_row hg]
    rw [← ht, List.getElem?_take] at hj
    split at hj
    · simpa using hj
    · cases hj
  have hsp : ∀ j, j < cap * 3 → (w.cell? ⟨g, j, none⟩).isSome = true := fun j hj => by rw [cell_of_row hg, Array.getElem?_eq_getElem (by omega)]; rfl
  have hfz : ∀ j, w.frozen? ⟨g, j, none⟩ = false := fun j => frozen_of_row hg
  have hov : ∀ lb cb, (callFunc 129 #[.slice (some ⟨vb, 0, none⟩) 1 1, .slice (some ⟨g, (i + 1) * 3, none⟩) lb cb]).run Tryz.prog w = .ok (.value (.bool false)) w := fun lb cb => by
    rw [run_callFunc_extern Tryz.func129 (by kernel_rfl) (by kernel_rfl) (by kernel_rfl) (e := Extern.SlicesOverlaps.overlaps #[101, 101] #[4]) (by kernel_rfl),
      Lib.run_overlaps_apart w 101 4 132 Tryz.underlying101 3 infoR_sizeOf ⟨vb, 0, none⟩ ⟨g, (i + 1) * 3, none⟩ 1 1 lb cb hne 132 132 r.toArray.size cur.size (shape_of_row hvb) (shape_of_row hg) (by omega) (frozen_of_row hvb) (frozen_of_row hvb)]
    rfl
  have hdl : (xs.drop (i * 3)).length = (n - i) * 3 := by rw [List.length_drop, hxl]; omega
  have hcp1 : ∀ ty dc sc, (Builtin.copy_ #[101, 101] ty #[.slice (some ⟨g, (i + 1) * 3, none⟩) (n - i) dc, .slice (some ⟨g, i * 3, none⟩) (n + 1 - i) sc]).run Tryz.prog w.drew = .ok (goInt (n - i : Nat)) (w.drew.setCells g ((i + 1) * 3) (xs.drop (i * 3))) := fun ty dc sc =>
    run_copy_sz w.drew _ _ ty 132 3 g ((i + 1) * 3) (n - i) dc ⟨g, i * 3, none⟩ (n + 1 - i) sc (xs.drop (i * 3)) Tryz.underlying101 infoR_size (by rw [hdl]; simp only [Nat.min_def]; split <;> omega) _ (by simp only [Nat.min_def]; split <;> omega)
      (fun j v hj => by rw [Addr.add_lit]; exact hx (i * 3 + j) v (by rwa [List.getElem?_drop] at hj))
      (fun j hj => hsp _ (by omega)) (fun j hj => hfz _) (fun v hv => h1x v (List.mem_of_mem_drop hv))
  obtain ⟨W1, hW1⟩ : ∃ W1, W1 = w.drew.setCells g ((i + 1) * 3) (xs.drop (i * 3)) := ⟨_, rfl⟩
  have hg1 : W1.heap[g]? = some (.cells (cur.toList.take ((i + 1) * 3) ++ xs.drop (i * 3) ++ cur.toList.drop ((i + 1) * 3 + (xs.drop (i * 3)).length)).toArray 132 (0, 0)) := by
    rw [hW1]; exact setCells_heap (w := w.drew) hg (by omega)
  have hgr1 : w.grownBy W1 (some g) := by rw [hW1]; exact grown_drew (grown_setCells w.drew g _ _)
  have hvb1 : W1.heap[vb]? = some (.cells r.toArray 132 (0, 0)) := (hgr1.block vb (Array.getElem?_eq_some_iff.1 hvb).1 (by simpa using hne)).trans hvb
  have hcp2 : ∀ (W : World), (∀ x, W.cell? x = W1.cell? x) → (∀ x, W.frozen? x = W1.frozen? x) → ∀ ty dc, (Builtin.copy_ #[101, 101] ty #[.slice (some ⟨g, i * 3, none⟩) (n + 1 - i) dc, .slice (some ⟨vb, 0, none⟩) 1 1]).run Tryz.prog W = .ok (goInt (1 : Nat)) (W.setCells g (i * 3) r) := fun W hWc hWf ty dc =>
    run_copy_sz W _ _ ty 132 3 g (i * 3) (n + 1 - i) dc ⟨vb, 0, none⟩ 1 1 r Tryz.underlying101 infoR_size (by rw [hr]; simp only [Nat.min_def]; split <;> omega) _ (by simp only [Nat.min_def]; split <;> omega)
      (fun j v hj => by rw [Addr.add_lit, hWc, cell_of_row hvb1]; simpa using hj)
      (fun j hj => by rw [hWc, cell_of_row hg1]; rw [Array.getElem?_eq_getElem (by simp [hxl]; omega)]; rfl) (fun j hj => by rw [hWf]; exact frozen_of_row hg1) h1r
  rw [← hW1] at hcp1
  have FIN : Hid (InsPost base g n i xs r w (.returned (.slice (some ⟨g, 0, none⟩) (n + 1) cap)) (W1.setCells g (i * 3) r)) := by
    refine ⟨_, rfl, ⟨by simp [hxl, hr]; omega, .inr ⟨g, cap, _, rfl, hb, setCells_heap hg1 (by simp [hxl, hr]; omega), by omega, by unfold maxLen; omega, by simp [hxl, hr]; omega, ?_⟩⟩, grown_step hgr1 (grown_setCells _ _ _ _) (.inl rfl)⟩
    have := ins_list cur.toList xs r (i * 3) 3 (n * 3) ht (by simp; omega) (by omega) hr
    rw [show (i + 1) * 3 = i * 3 + 3 by omega, show (n + 1) * 3 = n * 3 + 3 by omega]
    simpa using this
  have hz2 : ¬ ((i : Int) = (n : Int)) := by omega
  have hw1 : IntKind.i64.wrap ((i : Int) + 1) = (i : Int) + 1 := by rw [IntKind.wrap_i64]; omega
  have hb1 : (0 : Int) ≤ (i : Int) + 1 := by omega
  have htn : ((i : Int) + 1).toNat = i + 1 := by omega
  have hb2 : ¬ (cap = i + 1) := by omega
  have hb3 : (i : Int) ≤ (n : Int) + 1 := by omega
  have hb4 : ¬ (cap = i) := by omega
  have hin : i ≤ n := by omega
  have hc2 := hcp2 W1 (fun _ => rfl) (fun _ => rfl)
  have HW1 := Lib.hid hW1
  clear hown hg hvb hv ht hcs hx hsp hfz hdl hg1 hgr1 hvb1 h1x h1r hcp2 hxl hr hW1
  go_enter Tryz.func106, Tryz.ntmps106
  go_wp2_with (simp only [hov])
  go_region_law (refine step_copy_eq rfl _ _ 101 101 rfl _ _ (by simp [Act.eval, Act.put]) (by simp [Act.eval, Act.put]) (hcp1 _ _ _) ?_)
  go_wp2_with fail
  go_ret
  exact FIN.out
theorem ins_list2 (L0 xs r : List Value) (a s N : Nat) (hxl : xs.length = N) (h0 : L0.take a = xs.take a) (hN : N + s ≤ L0.length) (ha : a ≤ N) (hr : r.length = s) (L1 : List Value) (hL1 : L1 = L0.take a ++ r ++ L0.drop (a + r.length)) :
    (L1.take (a + s) ++ xs.drop a ++ L1.drop (a + s + (xs.drop a).length)).take (N + s) = xs.take a ++ r ++ xs.drop a := by
  have h1 : (L0.take a).length = a := by simp; omega
  have e1 : L1.take (a + s) = xs.take a ++ r := by
    rw [hL1, List.take_append_of_le_length (by simp; omega), List.take_of_length_le (by simp; omega), h0]
  rw [e1]
  have h2 : (xs.take a ++ r ++ xs.drop a).length = N + s := by simp; omega
  rw [List.take_append_of_le_length (by omega), List.take_of_length_le (by omega)]
set_option maxHeartbeats 4000000 in
set_option maxRecDepth 100000 in
/-- Insert of one element where there is no room -/
theorem ins_grow (base g cap n i vb : Nat) (xs r : List Value) (w : World) (hi : i < n) (hroom : cap < n + 1) (hbig : n ≤ 1000000) (hown : w.ownsRow base 132 3 (.slice (some ⟨g, 0, none⟩) n cap) n xs)
    (hvb : w.heap[vb]? = some (.cells r.toArray 132 (0, 0))) (hne : vb ≠ g) (hr : r.length = 3) (h1x : ∀ v ∈ xs, v.oneCell' = true) (h1r : ∀ v ∈ r, v.oneCell' = true) :
    Calls Tryz.prog 106 #[.slice (some ⟨g, 0, none⟩) n cap, .int .i64 i, .slice (some ⟨vb, 0, none⟩) 1 1] w (InsPost base g n i xs r w) := by
  rcases hown.2 with ⟨h', _⟩ | ⟨g', cap', cur, hv, hb, hg, hnc, hcm, hcs, ht⟩
  · cases h'
  obtain ⟨rfl, rfl⟩ : g = g' ∧ cap = cap' := by injection hv with e1 e2 e3; injection e1 with e1; injection e1 with e1; exact ⟨e1, e3⟩
  unfold maxLen at hcm
  have hxl := hown.1
  obtain ⟨i0, hi0, hz0, hzs, hzb⟩ := info_parts infoR
  have hx : ∀ j v, xs[j]? = some v → w.cell? ⟨g, j, none⟩ = some v := fun j v hj => by
    rw [cell_of_row hg]
    rw [← ht, List.getElem?_take] at hj
    split at hj
    · simpa using hj
    · cases hj
  have hgw := (Array.getElem?_eq_some_iff.1 hg).1
  have hvw := (Array.getElem?_eq_some_iff.1 hvb).1
  have hdl : (xs.drop (i * 3)).length = (n - i) * 3 := by rw [List.length_drop, hxl]; omega
  have hkk : (n : Int) + 1 - (i : Int) = ((n + 1 - i : Nat) : Int) := by omega
  have hik : i + (n + 1 - i) = n + 1 := by omega
  have hold : (Builtin.firstCells i0.size i (.slice (some ⟨g, 0, none⟩) i cap)).run Tryz.prog w.drew = .ok (xs.take (i * 3)).toArray w.drew := by
    rw [hzs]
    exact run_firstCells_some w.drew 3 i ⟨g, 0, none⟩ i cap (xs.take (i * 3)) (by rw [List.length_take]; omega) (fun j v hj => by
      rw [Addr.add_lit, Nat.zero_add]
      rw [List.getElem?_take] at hj
      split at hj
      · exact hx j v hj
      · cases hj)
  obtain ⟨G, hG⟩ : ∃ G, G = grownCap w (n + 1) cap 132 := ⟨_, rfl⟩
  obtain ⟨ROW, hROW⟩ : ∃ ROW : Array Value, ROW = (xs.take (i * 3)).toArray ++ Builtin.zeroCells (.agg #[.int .i64 0, .slice none 0 0, .slice none 0 0] : Value).cells (n + 1 - i) ++ Builtin.zeroCells (.agg #[.int .i64 0, .slice none 0 0, .slice none 0 0] : Value).cells (G - (n + 1)) := ⟨_, rfl⟩
  have hrz : ∀ ty, (Builtin.append_ #[101, 3] ty #[.slice (some ⟨g, 0, none⟩) i cap, .int .i64 ((n : Int) + 1 - (i : Int))]).run Tryz.prog w =
      .ok (.slice (some ⟨w.heap.size, 0, none⟩) (n + 1) G) (w.drew.alloc (.cells ROW 132)) := fun ty => by
    have h := Lib.run_append_grow_zeros w 101 3 ty 132 i0 _ .i64 .i64 Tryz.underlying101 Tryz.underlying3 hi0 hz0 (some ⟨g, 0, none⟩) i cap (xs.take (i * 3)) hold (n + 1 - i) (by omega) (by omega) (by omega) (by omega) (by rw [hzb]; omega) (by rw [hzb, hik]; exact growslice_fits hroom (by omega))
    rw [hik] at h
    rw [hkk, hROW, hG]
    exact h
  have hGn : n + 1 ≤ G := by rw [hG]; exact grownCap_ge w _ _ _
  have hG63 : G ≤ 9223372036854775807 := by
    have := grownCap_le_maxLen w (n + 1) cap 132 (by unfold maxLen; omega)
    rw [← hG] at this
    unfold maxLen at this
    omega
  have hRl : ROW.size = G * 3 := by
    rw [hROW]
    simp only [Array.size_append, List.size_toArray, List.length_take, hxl]
    have e1 := zeroCells_len (.agg #[.int .i64 0, .slice none 0 0, .slice none 0 0] : Value).cells (n + 1 - i)
    have e2 := zeroCells_len (.agg #[.int .i64 0, .slice none 0 0, .slice none 0 0] : Value).cells (G - (n + 1))
    rw [Array.length_toList] at e1 e2
    rw [e1, e2, show (.agg #[.int .i64 0, .slice none 0 0, .slice none 0 0] : Value).cells.size = 3 from rfl]
    omega
  have hR0 : ROW.toList.take (i * 3) = xs.take (i * 3) := by
    rw [hROW]
    simp only [Array.toList_append, List.append_assoc]
    rw [List.take_append_of_le_length (by simp; omega), List.take_of_length_le (by simp; omega)]
  obtain ⟨W1, hW1⟩ : ∃ W1, W1 = w.drew.alloc (.cells ROW 132) := ⟨_, rfl⟩
  have hgW1 : W1.heap[w.heap.size]? = some (.cells ROW 132 (0, 0)) := by
    rw [hW1]
    show (w.heap.push _)[w.heap.size]? = _
    simp
  have hgr1 : w.grownBy W1 (some g) := by rw [hW1]; exact grown_drew (World.grownBy_alloc w.drew _ _)
  have hvb1 : W1.heap[vb]? = some (.cells r.toArray 132 (0, 0)) := (hgr1.block vb hvw (by simpa using hne)).trans hvb
  have hg1 : W1.heap[g]? = some (.cells cur 132 (0, 0)) := by
    rw [hW1]; exact ((World.grownBy_alloc w.drew _ none).block g hgw (by simp)).trans hg
  have hcpA : ∀ (W : World), (∀ x, W.cell? x = W1.cell? x) → (∀ x, W.frozen? x = W1.frozen? x) → ∀ ty dc, (Builtin.copy_ #[101, 101] ty #[.slice (some ⟨w.heap.size, i * 3, none⟩) (n + 1 - i) dc, .slice (some ⟨vb, 0, none⟩) 1 1]).run Tryz.prog W = .ok (goInt (1 : Nat)) (W.setCells w.heap.size (i * 3) r) := fun W hWc hWf ty dc =>
    run_copy_sz W _ _ ty 132 3 w.heap.size (i * 3) (n + 1 - i) dc ⟨vb, 0, none⟩ 1 1 r Tryz.underlying101 infoR_size (by rw [hr]; simp only [Nat.min_def]; split <;> omega) _ (by simp only [Nat.min_def]; split <;> omega)
      (fun j v hj => by rw [Addr.add_lit, hWc, cell_of_row hvb1]; simpa using hj)
      (fun j hj => by rw [hWc, cell_of_row hgW1, Array.getElem?_eq_getElem (by omega)]; rfl) (fun j hj => by rw [hWf]; exact frozen_of_row hgW1) h1r
  obtain ⟨L1, hL1⟩ : ∃ L1, L1 = ROW.toList.take (i * 3) ++ r ++ ROW.toList.drop (i * 3 + r.length) := ⟨_, rfl⟩
  have hL1l : L1.length = G * 3 := by rw [hL1]; simp [hRl, hr]; omega
  have hgW2 : (W1.setCells w.heap.size (i * 3) r).heap[w.heap.size]? = some (.cells L1.toArray 132 (0, 0)) := by rw [hL1]; exact setCells_heap hgW1 (by omega)
  have hg2 : (W1.setCells w.heap.size (i * 3) r).heap[g]? = some (.cells cur 132 (0, 0)) := by
    have hs1 : g < W1.heap.size := (Array.getElem?_eq_some_iff.1 hg1).1
    exact ((grown_setCells W1 w.heap.size (i * 3) r).block g hs1 (by simp; omega)).trans hg1
  have hcpB : ∀ (W : World), (∀ x, W.cell? x = (W1.setCells w.heap.size (i * 3) r).cell? x) → (∀ x, W.frozen? x = (W1.setCells w.heap.size (i * 3) r).frozen? x) → ∀ ty dc sc, (Builtin.copy_ #[101, 101] ty #[.slice (some ⟨w.heap.size, (i + 1) * 3, none⟩) (n - i) dc, .slice (some ⟨g, i * 3, none⟩) (n - i) sc]).run Tryz.prog W = .ok (goInt (n - i : Nat)) (W.setCells w.heap.size ((i + 1) * 3) (xs.drop (i * 3))) := fun W hWc hWf ty dc sc =>
    run_copy_sz W _ _ ty 132 3 w.heap.size ((i + 1) * 3) (n - i) dc ⟨g, i * 3, none⟩ (n - i) sc (xs.drop (i * 3)) Tryz.underlying101 infoR_size (by rw [hdl]; simp only [Nat.min_def]; split <;> omega) _ (by simp only [Nat.min_def]; split <;> omega)
      (fun j v hj => by
        rw [Addr.add_lit, hWc, cell_of_row hg2, ← cell_of_row hg]
        exact hx (i * 3 + j) v (by rwa [List.getElem?_drop] at hj))
      (fun j hj => by rw [hWc, cell_of_row hgW2, Array.getElem?_eq_getElem (by simp [hL1l]; omega)]; rfl)
      (fun j hj => by rw [hWf]; exact frozen_of_row hgW2) (fun v hv => h1x v (List.mem_of_mem_drop hv))
  have FIN : ∀ W2 W3 : World, W2.heap = (W1.setCells w.heap.size (i * 3) r).heap → W2.os = w.os → W2.tape = w.tape → W2.output = w.output → W3 = W2.setCells w.heap.size ((i + 1) * 3) (xs.drop (i * 3)) → InsPost base g n i xs r w (.returned (.slice (some ⟨w.heap.size, 0, none⟩) (n + 1) G)) W3 := by
    intro W2 W3 hh ho1 ho2 ho3 hW3
    have hgW2' : W2.heap[w.heap.size]? = some (.cells L1.toArray 132 (0, 0)) := by rw [hh]; exact hgW2
    have hgrow2 : w.grownBy W2 (some g) := by
      have h := grown_step hgr1 (grown_setCells W1 w.heap.size (i * 3) r) (.inr (fun k hk => by injection hk with hk; omega))
      exact ⟨ho1, ho2, ho3, by rw [hh]; exact h.size, fun k hk hne => by rw [hh]; exact h.block k hk hne⟩
    subst hW3
    refine ⟨_, rfl, ⟨by simp [hxl, hr]; omega, .inr ⟨w.heap.size, G, _, rfl, by omega, setCells_heap hgW2' (by simp [hL1l]; omega), by omega, by unfold maxLen; omega, by simp [hL1l, hxl]; omega, ?_⟩⟩, grown_step hgrow2 (grown_setCells _ _ _ _) (.inr (fun k hk => by injection hk with hk; omega))⟩
    have := ins_list2 ROW.toList xs r (i * 3) 3 (n * 3) (by omega) hR0 (by simp [hRl]; omega) (by omega) hr L1 hL1
    rw [show (i + 1) * 3 = i * 3 + 3 by omega, show (n + 1) * 3 = n * 3 + 3 by omega]
    simpa using this
  have FIN := Lib.hid FIN
  have hGi : ¬ (G = i) := by omega
  have hGim : ¬ (G = i + 1) := by omega
  have hci : ¬ (cap = i) := by omega
  have hz2 : ¬ ((i : Int) = (n : Int)) := by omega
  have hz3 : (cap : Int) < (n : Int) + 1 := by omega
  have hw1 : IntKind.i64.wrap ((i : Int) + 1) = (i : Int) + 1 := by rw [IntKind.wrap_i64]; omega
  have hb1 : (0 : Int) ≤ (i : Int) + 1 := by omega
  have hin : i ≤ n := by omega
  have htn : ((i : Int) + 1).toNat = i + 1 := by omega
  have hb3 : (i : Int) ≤ (n : Int) := by omega
  subst hW1
  have hA1 := hcpA (w.drew.alloc (.cells ROW 132)) (fun _ => rfl) (fun _ => rfl)
  have hA2 := hcpA ((w.alloc (.cells ROW 132)).drew) (fun _ => rfl) (fun _ => rfl)
  have HB := Lib.hid (hcpB (((w.alloc (.cells ROW 132)).drew.setCells w.heap.size (i * 3) r).drew) (fun _ => rfl) (fun _ => rfl))
  have HZ := Lib.hid hrz
  clear hown hg hvb hv ht hcs hx hdl hgW1 hgW2 hg1 hg2 hvb1 h1x h1r hcpA hcpB hrz hxl hr hgr1 hold hkk hik hROW hR0 hRl hL1 hL1l hG hi0 hz0 hzs hzb
  go_enter Tryz.func106, Tryz.ntmps106
  go_wp2_with (at_builtin; refine Lib.wpList_append_run _ rfl _ _ _ _ rfl _ _ rfl rfl _ _ (HZ.out _) ?_)
  go_region_law (refine step_copy_eq rfl _ _ 101 101 rfl (.slice (some ⟨w.heap.size, (i + 1) * 3, none⟩) (n - i) (G - (i + 1))) (.slice (some ⟨g, i * 3, none⟩) (n - i) (cap - i)) (by simp [Act.eval, Act.put]) (by simp [Act.eval, Act.put]) (HB.out 3 (G - (i + 1)) (cap - i)) ?_)
  go_wp2_with fail
  go_ret
  have G0 := grown_setCells ((w.alloc (.cells ROW 132)).drew) w.heap.size (i * 3) r
  exact FIN.out (((w.alloc (.cells ROW 132)).drew.setCells w.heap.size (i * 3) r).drew) _ rfl G0.os G0.tape G0.output rfl
set_option maxHeartbeats 4000000 in
set_option maxRecDepth 100000 in
/-- Insert of one element behind all -/
theorem ins_end (base g cap n vb : Nat) (xs r : List Value) (w : World) (hbig : n ≤ 1000000) (hown : w.ownsRow base 132 3 (.slice (some ⟨g, 0, none⟩) n cap) n xs)
    (hvb : w.heap[vb]? = some (.cells r.toArray 132 (0, 0))) (hr : r.length = 3) (h1r : ∀ v ∈ r, v.oneCell' = true) :
    Calls Tryz.prog 106 #[.slice (some ⟨g, 0, none⟩) n cap, .int .i64 n, .slice (some ⟨vb, 0, none⟩) 1 1] w (InsPost base g n n xs r w) := by
  obtain ⟨i0, hi0, hz0, hzs, hzb⟩ := info_parts infoR
  have hlt := hown.lt g rfl
  obtain ⟨hnc, hcm⟩ := own_cap hown
  have hxl := hown.1
  have HO := Lib.hid hown
  have HV := Lib.hid (show ∀ j u, r[j]? = some u → w.cell? ((⟨vb, 0, none⟩ : Addr).add j) = some u from fun j u hj => by rw [Addr.add_lit, cell_of_row hvb]; simpa using hj)
  have H1 := Lib.hid h1r
  have HR := Lib.hid hr
  have HX := Lib.hid hxl
  clear hown hvb hr h1r hxl
  go_enter Tryz.func106, Tryz.ntmps106
  go_wp2_with (at_builtin; go_loud (refine wpList_append_own_at _ rfl _ _ 101 rfl base 132 i0 _ 3 56 Tryz.underlying101 hi0 hz0 hzs hzb rfl (by omega) (.slice (some ⟨g, 0, none⟩) n cap) n xs rfl HO.out ⟨vb, 0, none⟩ 1 1 r rfl (by rw [HR.out]) HV.out H1.out (by unfold maxLen; omega) (by omega) (by omega) ?_; intro v1 w1 hown1 hgrow1 _ _; have HO1 := Lib.hid hown1; have HG1 := Lib.hid hgrow1; clear hown1 hgrow1))
  all_goals
    go_ret
    refine ⟨_, rfl, ?_, HG1.out⟩
    rw [List.take_of_length_le (by rw [HX.out]; omega), List.drop_eq_nil_of_le (by rw [HX.out]; omega), List.append_nil]
    exact HO1.out
theorem ins_any (base g cap n i vb : Nat) (xs r : List Value) (w : World) (hi : i ≤ n) (hbig : n ≤ 1000000) (hown : w.ownsRow base 132 3 (.slice (some ⟨g, 0, none⟩) n cap) n xs)
    (hvb : w.heap[vb]? = some (.cells r.toArray 132 (0, 0))) (hne : vb ≠ g) (hr : r.length = 3) (h1x : ∀ v ∈ xs, v.oneCell' = true) (h1r : ∀ v ∈ r, v.oneCell' = true) :
    Calls Tryz.prog 106 #[.slice (some ⟨g, 0, none⟩) n cap, .int .i64 i, .slice (some ⟨vb, 0, none⟩) 1 1] w (InsPost base g n i xs r w) := by
  by_cases e : i = n
  · subst e
    exact ins_end base g cap i vb xs r w hbig hown hvb hr h1r
  · by_cases h : n + 1 ≤ cap
    · exact ins_shift base g cap n i vb xs r w (by omega) h hown hvb hne hr h1x h1r
    · exact ins_grow base g cap n i vb xs r w (by omega) (by omega) hbig hown hvb hne hr h1x h1r
theorem del_list (c xs Z : List Value) (a s N : Nat) (hx : c.take N = xs) (hN : N ≤ c.length) (ha : a + s ≤ N) (L1 : List Value) (hL1 : L1 = c.take a ++ xs.drop (a + s) ++ c.drop (a + (xs.drop (a + s)).length)) (hZ : Z.length = s) :
    (L1.take (N - s) ++ Z ++ L1.drop (N - s + Z.length)).take (N - s) = xs.take a ++ xs.drop (a + s) := by
  have hxl : xs.length = N := by rw [← hx]; simp; omega
  have h1 : L1.length = c.length := by rw [hL1]; simp; omega
  have e1 : L1.take (N - s) = xs.take a ++ xs.drop (a + s) := by
    have h2 : (c.take a ++ xs.drop (a + s)).length = N - s := by simp; omega
    rw [hL1, List.take_append_of_le_length (by omega), List.take_of_length_le (by omega), ← hx, List.take_take]
    congr 2
    omega
  rw [List.append_assoc, List.take_append_of_le_length (by simp; omega), List.take_take, Nat.min_self, e1]
def DelPost1 (base g cap n i : Nat) (xs : List Value) (w : World) (e : Ending) (w' : World) : Prop :=
  e = .returned (.slice (some ⟨g, 0, none⟩) (n - 1) cap) ∧ w'.ownsRow base 132 3 (.slice (some ⟨g, 0, none⟩) (n - 1) cap) (n - 1) (xs.take (i * 3) ++ xs.drop ((i + 1) * 3)) ∧ w.grownBy w' (some g)
set_option maxHeartbeats 4000000 in
set_option maxRecDepth 100000 in
/-- Delete of one element -/
theorem del_one (base g cap n i : Nat) (xs : List Value) (w : World) (hi : i < n) (hown : w.ownsRow base 132 3 (.slice (some ⟨g, 0, none⟩) n cap) n xs) (h1x : ∀ v ∈ xs, v.oneCell' = true) :
    Calls Tryz.prog 92 #[.slice (some ⟨g, 0, none⟩) n cap, .int .i64 i, .int .i64 ((i : Int) + 1)] w (DelPost1 base g cap n i xs w) := by
  rcases hown.2 with ⟨h', _⟩ | ⟨g', cap', cur, hv, hb, hg, hnc, hcm, hcs, ht⟩
  · cases h'
  obtain ⟨rfl, rfl⟩ : g = g' ∧ cap = cap' := by injection hv with e1 e2 e3; injection e1 with e1; injection e1 with e1; exact ⟨e1, e3⟩
  unfold maxLen at hcm
  have hxl := hown.1
  obtain ⟨i0, hi0, hz0, hzs, hzb⟩ := info_parts infoR
  have hx : ∀ j v, xs[j]? = some v → w.cell? ⟨g, j, none⟩ = some v := fun j v hj => by
    rw [cell_of_row hg]
    rw [← ht, List.getElem?_take] at hj
    split at hj
    · simpa using hj
    · cases hj
  have hsp : ∀ j, j < cap * 3 → (w.cell? ⟨g, j, none⟩).isSome = true := fun j hj => by rw [cell_of_row hg, Array.getElem?_eq_getElem (by omega)]; rfl
  obtain ⟨news, hnews⟩ : ∃ news, news = xs.drop ((i + 1) * 3) := ⟨_, rfl⟩
  have hlen : news.length = (n - (i + 1)) * 3 := by rw [hnews, List.length_drop, hxl]; omega
  obtain ⟨A, hA, hsrc⟩ : ∃ A : Addr, (if cap = i + 1 then some (⟨g, 0, none⟩ : Addr) else some ⟨g, (i + 1) * 3, none⟩) = some A ∧ Hid (∀ t u, news[t]? = some u → w.drew.cell? (A.add t) = some u) := by
    by_cases h : cap = i + 1
    · refine ⟨⟨g, 0, none⟩, by simp [h], fun t u hu => ?_⟩
      have h0 : news.length = 0 := by rw [hlen]; omega
      rw [List.length_eq_zero_iff.1 h0] at hu
      simp at hu
    · refine ⟨⟨g, (i + 1) * 3, none⟩, by simp [h], fun t u hu => ?_⟩
      rw [Addr.add_lit]
      rw [hnews, List.getElem?_drop] at hu
      exact hx _ u hu
  have s1 : Hid (news.length = (n - (i + 1)) * 3) := hlen
  have s2 : Hid (∀ u ∈ news, u.oneCell' = true) := fun u hu => by rw [hnews] at hu; exact h1x u (List.mem_of_mem_drop hu)
  have s3 : Hid (∀ t, t < news.length → (w.drew.cell? ⟨g, 0 + i * 3 + t, none⟩).isSome = true ∧ w.drew.frozen? ⟨g, 0 + i * 3 + t, none⟩ = false) := by
    intro t ht
    rw [hlen] at ht
    exact ⟨hsp _ (by omega), frozen_of_row (w := w.drew) hg⟩
  obtain ⟨W1, hW1⟩ : ∃ W1, W1 = w.drew.setCells g (0 + i * 3) news := ⟨_, rfl⟩
  obtain ⟨L1, hL1⟩ : ∃ L1, L1 = cur.toList.take (i * 3) ++ xs.drop (i * 3 + 3) ++ cur.toList.drop (i * 3 + (xs.drop (i * 3 + 3)).length) := ⟨_, rfl⟩
  have hL1l : L1.length = cap * 3 := by rw [hL1]; simp [hxl, hcs]; omega
  have hg1 : W1.heap[g]? = some (.cells L1.toArray 132 (0, 0)) := by
    rw [hW1, hL1, show i * 3 + 3 = (i + 1) * 3 by omega, ← hnews]
    have := setCells_heap (w := w.drew) (vs := news) (o := 0 + i * 3) hg (by omega)
    rw [Nat.zero_add] at this
    rw [Nat.zero_add]
    exact this
  have hgr1 : w.grownBy W1 (some g) := by rw [hW1]; exact grown_drew (grown_setCells w.drew g _ _)
  obtain ⟨Z, hZ⟩ : ∃ Z, Z = (Builtin.zeroCells (.agg #[.int .i64 0, .slice none 0 0, .slice none 0 0] : Value).cells 1).toList := ⟨_, rfl⟩
  have hZl : Z.length = 3 := by rw [hZ, zeroCells_len]; rfl
  have hZ1 : ∀ v ∈ Z, v.oneCell' = true := by
    have e : (Builtin.zeroCells (.agg #[.int .i64 0, .slice none 0 0, .slice none 0 0] : Value).cells 1).toList = (.agg #[.int .i64 0, .slice none 0 0, .slice none 0 0] : Value).cells.toList := by kernel_rfl
    rw [hZ, e]
    intro v hv
    simp [Value.cells] at hv
    rcases hv with rfl | rfl | rfl <;> rfl
  have hnn : n - (i + (n - (i + 1))) = 1 := by omega
  have hcl : ∀ ty, (Builtin.clear_ #[101] ty #[.slice (some ⟨g, (i + (n - (i + 1))) * 3, none⟩) (n - (i + (n - (i + 1)))) (cap - (i + (n - (i + 1))))]).run Tryz.prog W1 = .ok (.tuple #[]) (W1.setCells g ((i + (n - (i + 1))) * 3) Z) := fun ty => by
    rw [hnn, hZ]
    exact run_clear_sz W1 _ 132 ty _ Tryz.underlying101 infoR_zero g _ 1 _ (by omega) (fun j hj => by rw [← hZ, hZl] at hj; rw [cell_of_row hg1, Array.getElem?_eq_getElem (by simp [hL1l]; omega)]; rfl) (fun j hj => frozen_of_row hg1) (by rw [← hZ]; exact hZ1)
  have FIN : Hid (DelPost1 base g cap n i xs w (.returned (.slice (some ⟨g, 0, none⟩) (i + (n - (i + 1))) cap)) (W1.setCells g ((i + (n - (i + 1))) * 3) Z)) := by
    have e1 : i + (n - (i + 1)) = n - 1 := by omega
    rw [e1]
    refine ⟨rfl, ⟨by simp [hxl]; omega, .inr ⟨g, cap, _, rfl, hb, setCells_heap hg1 (by simp [hL1l, hZl]; omega), by omega, by unfold maxLen; omega, by simp [hL1l, hZl]; omega, ?_⟩⟩, grown_step hgr1 (grown_setCells _ _ _ _) (.inl rfl)⟩
    have := del_list cur.toList xs Z (i * 3) 3 (n * 3) ht (by simp; omega) (by omega) L1 hL1 hZl
    rw [show (i + 1) * 3 = i * 3 + 3 by omega, show (n - 1) * 3 = n * 3 - 3 by omega]
    simpa using this
  have hW : Hid (W1 = w.drew.setCells g (0 + i * 3) news) := hW1
  have hic : i ≤ cap := by omega
  have hjc : i + 1 ≤ cap := by omega
  have hjn : i + 1 ≤ n := by omega
  have htn : ((i : Int) + 1).toNat = i + 1 := by omega
  have hb1 : (0 : Int) ≤ (i : Int) + 1 := by omega
  have hq1 : (i : Int) ≤ (i : Int) + 1 := by omega
  have hq2 : (i : Int) + 1 ≤ (n : Int) := by omega
  have hq3 : (i : Int) ≤ (n : Int) := by omega
  have hq4 : ((i : Int) == (i : Int) + 1) = false := by simp; omega
  clear hown hg hv ht hcs hx hsp hnews hlen hL1 hL1l hg1 hgr1 hZ hZl hZ1 hnn hxl hW1 h1x
  go_enter Tryz.func92, Tryz.ntmps92
  go_wp2_with fail
  go_region_law (refine step_append_room rfl (.tmp 22) (.tmp 25) 101 rfl 132 i0 3 Tryz.underlying101 hi0 hzs g 0 i cap (by simp [Act.eval, Act.put]) A (n - (i + 1)) (cap - (i + 1)) news (by simp [Act.eval, Act.put]) s1.out hsrc.out s2.out (by omega) s3.out ?_; rw [← hW.out])
  go_wp2_with fail
  go_ret
  exact FIN.out

end Go.Proofs.YtjjfglbcikaicaaGreat.Li
namespace Go.Proofs.YtjjfglbcikaicaaGreat.Li
open Go.RowKit
set_option linter.unusedVariables false
theorem iv_del (vw vl : Nat → Value) (i j : Nat) (s : Bool) : iv (delF vw i) (delF vl i) j s = iv vw vl (if j < i then j else j + 1) s := by
  unfold iv delF
  cases s <;> simp only [Bool.false_eq_true, if_false, if_true] <;> split <;> rfl
theorem il_del (R : Nat → LR) (i j : Nat) (s : Bool) : il (delF R i) j s = il R (if j < i then j else j + 1) s := by
  unfold il delF
  cases s <;> simp only [Bool.false_eq_true, if_false, if_true] <;> split <;> rfl
theorem rwC_del (R : Nat → LR) (vw vl : Nat → Value) (i : Nat) : rwC (delF R i) (delF vw i) (delF vl i) = delF (rwC R vw vl) i := by
  funext k
  unfold rwC delF
  split <;> rfl
/-- a row less -/
theorem OwnL.del {w w2 : World} {base g cap n i : Nat} {R : Nat → LR} {vw vl : Nat → Value} (h : OwnL w base (.slice (some ⟨g, 0, none⟩) n cap) n R vw vl) (hi : i < n) (hg : w.grownBy w2 (some g))
    (hown : w2.ownsRow base 132 3 (.slice (some ⟨g, 0, none⟩) (n - 1) cap) (n - 1) ((flatC (rwC R vw vl) n).take (i * 3) ++ (flatC (rwC R vw vl) n).drop ((i + 1) * 3))) :
    OwnL w2 base (.slice (some ⟨g, 0, none⟩) (n - 1) cap) (n - 1) (delF R i) (delF vw i) (delF vl i) := by
  have hx : ∀ j, j < n - 1 → (if j < i then j else j + 1) < n := fun j hj => by split <;> omega
  refine ⟨?_, fun j hj s => ?_, fun a b ha hb s t hst k hk => ?_, fun j hj s k hk => ?_⟩
  · rw [del_flatG (rwC_len _ _ _) hi] at hown
    rw [rwC_del]
    exact hown
  · rw [iv_del, il_del]
    exact (h.each _ (hx j hj) s).grown hg (fun k hk e => h.outer _ (hx j hj) s k hk (by rw [← e]; rfl))
  · rw [iv_del] at hk ⊢
    refine h.apart _ _ (hx a ha) (hx b hb) s t (fun h2 => hst ⟨?_, h2.2⟩) k hk
    have := h2.1
    split at this <;> split at this <;> omega
  · rw [iv_del] at hk
    intro e
    exact h.outer _ (hx j hj) s k hk (by rw [← e]; rfl)
/-- the cells of a letter without a value -/
def ltC (k a b n : Int) (s : ByteArray) : List Value := [.int .i64 k, .int .i64 a, .int .i64 b, .int .i64 n, .string s, .int .i64 0, .int .i64 0, .string ⟨#[]⟩, .slice none 0 0]
theorem ltC_one (k a b n : Int) (s : ByteArray) : ∀ u ∈ ltC k a b n s, u.oneCell' = true := by
  intro u hu
  simp [ltC] at hu
  rcases hu with rfl | rfl | rfl | rfl | rfl | rfl | rfl | rfl <;> rfl
/-- what is told when one is gone -/
def told (ref : Int) (failed : Bool) (text : ByteArray) (r : LR) : Nat → List Value := fun k =>
  if k < r.ws.length then ltC 2 ref (lst r.ws k) (if failed then 1 else 0) (if failed then text else ⟨#[]⟩) else ltC 5 ref (lst r.ls (k - r.ws.length)) 0 text
theorem told_len (ref : Int) (failed : Bool) (text : ByteArray) (r : LR) : ∀ k, (told ref failed text r k).length = 9 := fun k => by unfold told; split <;> rfl
def manyTold (failed : Bool) (r : LR) : Nat := r.ws.length + if failed then r.ls.length else 0
def GoneBad (P : Prop) (w : World) (e : Ending) (w' : World) : Prop := ∃ x : Int, x ≠ 0 ∧ (P → x = 4) ∧ e = .returned (.tuple #[.slice none 0 0, .slice none 0 0, .int .i64 x]) ∧ Below w.heap.size w w'
def GoneOk (R : Nat → LR) (n i : Nat) (ref : Int) (failed : Bool) (text : ByteArray) (w : World) (e : Ending) (w' : World) : Prop := ∃ A c vw vl L d, e = .returned (.tuple #[.slice A (n - 1) c, .slice L (manyTold failed (R i)) d, .int .i64 0]) ∧
  OwnL w' w.heap.size (.slice A (n - 1) c) (n - 1) (delF R i) vw vl ∧ w'.ownsRow w.heap.size 43 9 (.slice L (manyTold failed (R i)) d) (manyTold failed (R i)) (flatC (told ref failed text (R i)) (manyTold failed (R i))) ∧ Below w.heap.size w w'
theorem infoLt : (Tryz.prog.info? 43).map (fun i => (i.zero, i.size, i.bytes)) = some (some (.agg #[.int .i64 0, .int .i64 0, .int .i64 0, .int .i64 0, .string ⟨#[]⟩, .int .i64 0, .int .i64 0, .string ⟨#[]⟩, .slice none 0 0]), 9, 104) := by kernel_rfl
/-- the two boxes of a call of Gone -/
structure GB (wx : World) (b : Nat) (lA : Option Addr) (ln lc : Nat) (y ref num : Int) (tx : ByteArray) : Prop where
  k2 : wx.cell? ⟨b, 2, none⟩ = some (.slice lA ln lc)
  c0 : wx.cell? ⟨b + 1, 0, none⟩ = some (.int .i64 2)
  c1 : wx.cell? ⟨b + 1, 1, none⟩ = some (.int .i64 ref)
  c2 : wx.cell? ⟨b + 1, 2, none⟩ = some (.int .i64 y)
  c3 : wx.cell? ⟨b + 1, 3, none⟩ = some (.int .i64 num)
  c4 : wx.cell? ⟨b + 1, 4, none⟩ = some (.string tx)
  c5 : wx.cell? ⟨b + 1, 5, none⟩ = some (.int .i64 0)
  c6 : wx.cell? ⟨b + 1, 6, none⟩ = some (.int .i64 0)
  c7 : wx.cell? ⟨b + 1, 7, none⟩ = some (.string ⟨#[]⟩)
  c8 : wx.cell? ⟨b + 1, 8, none⟩ = some (.slice none 0 0)
  fz : ∀ o, wx.frozen? ⟨b + 1, o, none⟩ = false
  sz : b + 1 < wx.heap.size
theorem GB.grown {wx wy : World} {b : Nat} {lA : Option Addr} {ln lc : Nat} {y ref num : Int} {tx : ByteArray} {row : Option Nat} (h : GB wx b lA ln lc y ref num tx) (hg : wx.grownBy wy row) (hr : ∀ g, row = some g → b + 2 ≤ g) : GB wy b lA ln lc y ref num tx := by
  have hs := h.sz
  have k0 : ∀ o, wy.cell? ⟨b, o, none⟩ = wx.cell? ⟨b, o, none⟩ := fun o => grown_cell hg (by omega) (fun e => by have := hr b e.symm; omega)
  have k1 : ∀ o, wy.cell? ⟨b + 1, o, none⟩ = wx.cell? ⟨b + 1, o, none⟩ := fun o => grown_cell hg (by omega) (fun e => by have := hr (b + 1) e.symm; omega)
  have k3 : ∀ o, wy.frozen? ⟨b + 1, o, none⟩ = wx.frozen? ⟨b + 1, o, none⟩ := fun o => grown_frozen hg (by omega) (fun e => by have := hr (b + 1) e.symm; omega)
  exact ⟨(k0 _).trans h.k2, (k1 _).trans h.c0, (k1 _).trans h.c1, (k1 _).trans h.c2, (k1 _).trans h.c3, (k1 _).trans h.c4, (k1 _).trans h.c5, (k1 _).trans h.c6, (k1 _).trans h.c7, (k1 _).trans h.c8, fun o => (k3 o).trans (h.fz o), by have := hg.size; omega⟩
theorem GB.set {wx : World} {b : Nat} {lA : Option Addr} {ln lc : Nat} {y ref num : Int} {tx : ByteArray} (h : GB wx b lA ln lc y ref num tx) (z : Int) : GB (wx.setCell ⟨b + 1, 2, none⟩ (.int .i64 z)) b lA ln lc z ref num tx := by
  have x2 : (wx.cell? ⟨b + 1, 2, none⟩).isSome = true := by rw [h.c2]; rfl
  constructor
  · simp [go_sem, h.k2]
  · simp [go_sem, h.c0]
  · simp [go_sem, h.c1]
  · simp [go_sem, x2]
  · simp [go_sem, h.c3]
  · simp [go_sem, h.c4]
  · simp [go_sem, h.c5]
  · simp [go_sem, h.c6]
  · simp [go_sem, h.c7]
  · simp [go_sem, h.c8]
  · intro o; simp [go_sem, h.fz]
  · simpa using h.sz
theorem OwnL.one {w : World} {base : Nat} {v : Value} {n : Nat} {R : Nat → LR} {vw vl : Nat → Value} (h : OwnL w base v n R vw vl) : ∀ u ∈ flatC (rwC R vw vl) n, u.oneCell' = true := by
  intro u hu
  obtain ⟨k, hk, hu⟩ := flatC_mem hu
  obtain ⟨wA, wc, hvw, _⟩ := own_any (h.each k hk true)
  obtain ⟨lA, lc, hvl, _⟩ := own_any (h.each k hk false)
  have hvw' : vw k = _ := hvw
  have hvl' : vl k = _ := hvl
  simp only [rwC, List.mem_cons, List.not_mem_nil, or_false] at hu
  rcases hu with rfl | rfl | rfl
  · rfl
  · rw [hvw']; rfl
  · rw [hvl']; rfl
set_option maxHeartbeats 2000000 in
theorem gone_bad (A : Option Addr) (n c : Nat) (R : Nat → LR) (vw vl : Nat → Value) (ref : Int) (failed : Bool) (text : ByteArray) (w : World) (hn : n ≤ c) (hc : c ≤ 9223372036854775807) (hR : RdL w A n R vw vl) (hno : ¬ ∃ i, OkIx R n ref i) :
    Calls Tryz.prog 59 #[.slice A n c, .int .i64 ref, .bool failed, .string text] w (GoneBad (OkL R n) w) := by
  have H := Lib.hid (begin_bad A n c R vw vl ref w hn hc hR hno)
  clear hR hno
  go_enter Tryz.func59, Tryz.ntmps59
  go_wp2_with fail
  refine H.out.mono ?_
  rintro e w1 ⟨y, hy, h4, rfl, hb⟩
  have HY := Lib.hid hy
  have H4 := Lib.hid h4
  have HB := Lib.hid hb
  have e0 : (y != 0) = true := by simpa using hy
  clear hy hb h4
  go_wp2_with fail
  go_ret3
  exact ⟨y, HY.out, H4.out, rfl, HB.out⟩
set_option maxRecDepth 100000 in
set_option maxHeartbeats 4000000 in
theorem gone_ok (A : Option Addr) (n c : Nat) (R : Nat → LR) (vw vl : Nat → Value) (ref : Int) (failed : Bool) (text : ByteArray) (i : Nat) (w : World) (hn : n ≤ c) (hc : c ≤ 9223372036854775807) (hR : RdL w A n R vw vl) (hi : OkIx R n ref i) :
    Calls Tryz.prog 59 #[.slice A n c, .int .i64 ref, .bool failed, .string text] w (GoneOk R n i ref failed text w) := by
  have hin := hi.2.1
  have hw100 := (hi.1.2 i hi.2.1).2.1
  have hl100 := (hi.1.2 i hi.2.1).2.2.1
  have hn100 := hi.1.1
  have H := Lib.hid (begin_ok A n c R vw vl ref i w hn hc hR hi)
  clear hR hi
  go_enter Tryz.func59, Tryz.ntmps59
  go_wp2_with fail
  refine H.out.mono ?_
  rintro e w1 ⟨A1, c1, vw1, vl1, rfl, hO, hb⟩
  obtain ⟨g, cap, hv, hbase, hglt, hnc, hcm⟩ := own_form hO.row (by omega)
  injection hv with e1 _ e3
  subst e1 e3
  obtain ⟨wA, wc, hvw, q1, q2, _⟩ := own_any (hO.each i hin true)
  have hvw' : vw1 i = .slice wA (R i).ws.length wc := hvw
  obtain ⟨lA, lc, hvl, q3, q4, _⟩ := own_any (hO.each i hin false)
  have hvl' : vl1 i = .slice lA (R i).ls.length lc := hvl
  have c0 : w1.cell? ⟨g, i * 3, none⟩ = some (.int .i64 (R i).ref) := by
    have := own_cellC hO.row (rwC_len _ _ _) hin (j := 0) (by omega)
    simpa [rwC] using this
  have c1' : w1.cell? ⟨g, i * 3 + 1, none⟩ = some (.slice wA (R i).ws.length wc) := by
    rw [own_cellC hO.row (rwC_len _ _ _) hin (j := 1) (by omega)]
    simp [rwC, hvw']
  have c2' : w1.cell? ⟨g, i * 3 + 2, none⟩ = some (.slice lA (R i).ls.length lc) := by
    rw [own_cellC hO.row (rwC_len _ _ _) hin (j := 2) (by omega)]
    simp [rwC, hvl']
  have HRW := Lib.hid (show Rd w1 1 (tmC (lst (R i).ws)) wA (R i).ws.length from OwnI.rd (by have := hO.each i hin true; rw [hvw] at this; exact this))
  have HRL := Lib.hid (show Rd w1 1 (tmC (lst (R i).ls)) lA (R i).ls.length from OwnI.rd (by have := hO.each i hin false; rw [hvl] at this; exact this))
  have HO := Lib.hid hO
  have HB := Lib.hid hb
  have hz := hb.size
  have j0 : (0 : Int) ≤ (i : Int) := by omega
  have j1 : (i : Int) < (n : Int) := by omega
  clear hO hb hvw hvw' hvl hvl'
  cases failed with
  | false =>
    go_wp2_with fail
    obtain ⟨i0, hi0, hz0, hz1, hz2⟩ := info_parts infoLt
    have hb14 : w1.heap.size ≤ w1.heap.size := Nat.le_refl _
    clear c0 c1' c2'
    go_loopw [16, 18, 44] (fun o _ x wx => ∃ (k : Nat) (v : Value) (y : Int), k ≤ (R i).ws.length ∧ x = .int .i64 k ∧ v = o ∧ GB wx w1.heap.size lA (R i).ls.length lc y ref 0 ⟨#[]⟩ ∧ Below w1.heap.size w1 wx ∧ wx.ownsRow (w1.heap.size + 2) 43 9 v k (flatC (told ref false text (R i)) k)) (fun _ _ x _ => (R i).ws.length - (intOf x).toNat)
    case atStart =>
      refine ⟨0, _, 0, Nat.zero_le _, rfl, rfl, ?_, ?_, World.ownsRow_nil _ _ _ _⟩
      · constructor
        any_goals (first | simp [go_sem] | (intro o; simp [go_sem]))
      · first
          | exact ((Below.refl _ _).alloc (Nat.le_refl _) _).alloc (by simp) _
          | exact below_set (below_set (((Below.refl _ _).alloc (Nat.le_refl _) _).alloc (by simp) _) (by omega)) (by omega)
    case round =>
      obtain ⟨k, v, y, hk, rfl, rfl, hG, hB, hV⟩ := hrel
      obtain ⟨Av, cv, rfl, v1, v2, _⟩ := own_any hV
      have HG := Lib.hid hG
      have HBx := Lib.hid hB
      have HV := Lib.hid hV
      have hBs := hB.size
      by_cases hlt : k < (R i).ws.length
      · obtain ⟨bl, ol, rfl, hbl, hcl⟩ := HRW.out (by omega)
        have f0 : wr.cell? ⟨bl, ol + k, none⟩ = some (.int .i64 (lst (R i).ws k)) := (hB.cell (p := ⟨bl, _, none⟩) hbl).trans (by simpa using hcl k hlt 0 _ rfl)
        have HT := Lib.hid (show told ref false text (R i) k = ltC 2 ref (lst (R i).ws k) 0 ⟨#[]⟩ by unfold told; rw [if_pos hlt]; rfl)
        generalize lst (R i).ws k = z at *
        obtain ⟨k2, c0, c1, c2, c3, c4, c5, c6, c7, c8, fz, hsz⟩ := hG
        have m0 : (0 : Int) ≤ (k : Int) := by omega
        have m1 : (k : Int) < ((R i).ws.length : Int) := by omega
        have HG2 := Lib.hid (HG.out.set z)
        have HV2 := Lib.hid (own_set (b := w1.heap.size + 1) (o := 2) (u := .int .i64 z) HV.out (by omega))
        have HB2 := Lib.hid (below_set (b := w1.heap.size + 1) (o := 2) (u := .int .i64 z) HBx.out (by omega))
        have HKL := Lib.hid (show k ≤ 1000 by omega)
        clear hcl hB hV hBs
        go_wp2_with (at_builtin; go_loud (refine wpList_append_own_at _ rfl _ _ 45 rfl (w1.heap.size + 2) 43 i0 _ 9 104 Tryz.underlying45 hi0 hz0 hz1 hz2 rfl (by omega) (.slice Av k cv) k (flatC (told ref false text (R i)) k) rfl (HV2.out.alloc _) ⟨wr.heap.size, 0, none⟩ 1 1 (ltC 2 ref z 0 ⟨#[]⟩) rfl rfl (cell_newL _ _ _ _ (by simp)) (ltC_one _ _ _ _ _) (by have := HKL.out; unfold maxLen; omega) (by have := HKL.out; omega) (by simp; have := HG.out.sz; omega) ?_; intro v8 w8 hown8 hgrow8 _ _; have HO8 := Lib.hid hown8; have HG8 := Lib.hid hgrow8; clear hown8 hgrow8))
        have HBK := Lib.hid (fun g (hg : (Value.slice Av k cv).ownBlock = some g) => (HV.out.lt g hg).1)
        refine ⟨⟨k + 1, v8, z, by omega, by go_num, rfl, ?_, ?_, ?_⟩, by simp [intOf]; omega⟩
        · exact (HG2.out.grown (World.grownBy_alloc _ _ none) (fun g hg => by cases hg)).grown HG8.out (fun g hg => HBK.out g hg)
        · exact below_grown (HB2.out.alloc (by simp; have := HBx.out.size; omega) _) (by simp; have := HBx.out.size; omega) HG8.out (fun g hg => by have := HBK.out g hg; omega)
        · rw [flatC, HT.out]
          exact HO8.out
      · obtain rfl : k = (R i).ws.length := by omega
        have HOX := Lib.hid (HO.out.below HBx.out)
        have w1i : IntKind.i64.wrap ((i : Int) + 1) = (i : Int) + 1 := by rw [IntKind.wrap_i64]; omega
        have j2 : (i : Int) + 1 ≤ (n : Int) := by omega
        clear hG hB hV
        go_wp2_with fail
        refine (del_one w.heap.size g c1 n i (flatC (rwC R vw1 vl1) n) _ hin HOX.out.row HOX.out.one).mono ?_
        rintro e w9 ⟨rfl, hown9, hg9⟩
        have HO9 := Lib.hid hown9
        have HG9 := Lib.hid hg9
        clear hown9 hg9
        go_wp2_with fail
        go_ret3
        refine ⟨some ⟨g, 0, none⟩, c1, delF vw1 i, delF vl1 i, Av, cv, rfl, HOX.out.del hin HG9.out HO9.out, ?_, ?_⟩
        · exact own_mono (own_grown HV.out HG9.out (fun k hk e => by have := (HV.out.lt k hk).1; injection e with e; omega)) (by omega)
        · exact below_grown (HB.out.trans (HBx.out.mono hz)) (by omega) HG9.out (fun k hk => by injection hk with hk; omega)
  | true =>
    go_wp2_with fail
    obtain ⟨i0, hi0, hz0, hz1, hz2⟩ := info_parts infoLt
    have hb14 : w1.heap.size ≤ w1.heap.size := Nat.le_refl _
    clear c0 c1' c2'
    go_loopw [16, 18, 44] (fun o _ x wx => ∃ (k : Nat) (v : Value) (y : Int), k ≤ (R i).ws.length ∧ x = .int .i64 k ∧ v = o ∧ GB wx w1.heap.size lA (R i).ls.length lc y ref 1 text ∧ Below w1.heap.size w1 wx ∧ wx.ownsRow (w1.heap.size + 2) 43 9 v k (flatC (told ref true text (R i)) k)) (fun _ _ x _ => (R i).ws.length - (intOf x).toNat)
    case atStart =>
      refine ⟨0, _, 0, Nat.zero_le _, rfl, rfl, ?_, ?_, World.ownsRow_nil _ _ _ _⟩
      · constructor
        any_goals (first | simp [go_sem] | (intro o; simp [go_sem]))
      · first
          | exact ((Below.refl _ _).alloc (Nat.le_refl _) _).alloc (by simp) _
          | exact below_set (below_set (((Below.refl _ _).alloc (Nat.le_refl _) _).alloc (by simp) _) (by omega)) (by omega)
    case round =>
      obtain ⟨k, v, y, hk, rfl, rfl, hG, hB, hV⟩ := hrel
      obtain ⟨Av, cv, rfl, v1, v2, _⟩ := own_any hV
      have HG := Lib.hid hG
      have HBx := Lib.hid hB
      have HV := Lib.hid hV
      have hBs := hB.size
      by_cases hlt : k < (R i).ws.length
      · obtain ⟨bl, ol, rfl, hbl, hcl⟩ := HRW.out (by omega)
        have f0 : wr.cell? ⟨bl, ol + k, none⟩ = some (.int .i64 (lst (R i).ws k)) := (hB.cell (p := ⟨bl, _, none⟩) hbl).trans (by simpa using hcl k hlt 0 _ rfl)
        have HT := Lib.hid (show told ref true text (R i) k = ltC 2 ref (lst (R i).ws k) 1 text by unfold told; rw [if_pos hlt]; rfl)
        generalize lst (R i).ws k = z at *
        obtain ⟨k2, c0, c1, c2, c3, c4, c5, c6, c7, c8, fz, hsz⟩ := hG
        have m0 : (0 : Int) ≤ (k : Int) := by omega
        have m1 : (k : Int) < ((R i).ws.length : Int) := by omega
        have HG2 := Lib.hid (HG.out.set z)
        have HV2 := Lib.hid (own_set (b := w1.heap.size + 1) (o := 2) (u := .int .i64 z) HV.out (by omega))
        have HB2 := Lib.hid (below_set (b := w1.heap.size + 1) (o := 2) (u := .int .i64 z) HBx.out (by omega))
        have HKL := Lib.hid (show k ≤ 1000 by omega)
        clear hcl hB hV hBs
        go_wp2_with (at_builtin; go_loud (refine wpList_append_own_at _ rfl _ _ 45 rfl (w1.heap.size + 2) 43 i0 _ 9 104 Tryz.underlying45 hi0 hz0 hz1 hz2 rfl (by omega) (.slice Av k cv) k (flatC (told ref true text (R i)) k) rfl (HV2.out.alloc _) ⟨wr.heap.size, 0, none⟩ 1 1 (ltC 2 ref z 1 text) rfl rfl (cell_newL _ _ _ _ (by simp)) (ltC_one _ _ _ _ _) (by have := HKL.out; unfold maxLen; omega) (by have := HKL.out; omega) (by simp; have := HG.out.sz; omega) ?_; intro v8 w8 hown8 hgrow8 _ _; have HO8 := Lib.hid hown8; have HG8 := Lib.hid hgrow8; clear hown8 hgrow8))
        have HBK := Lib.hid (fun g (hg : (Value.slice Av k cv).ownBlock = some g) => (HV.out.lt g hg).1)
        refine ⟨⟨k + 1, v8, z, by omega, by go_num, rfl, ?_, ?_, ?_⟩, by simp [intOf]; omega⟩
        · exact (HG2.out.grown (World.grownBy_alloc _ _ none) (fun g hg => by cases hg)).grown HG8.out (fun g hg => HBK.out g hg)
        · exact below_grown (HB2.out.alloc (by simp; have := HBx.out.size; omega) _) (by simp; have := HBx.out.size; omega) HG8.out (fun g hg => by have := HBK.out g hg; omega)
        · rw [flatC, HT.out]
          exact HO8.out
      · obtain rfl : k = (R i).ws.length := by omega
        obtain ⟨k2, c0, c1_, c2, c3, c4, c5, c6, c7, c8, fz, hsz⟩ := hG
        have hk2 : w1.heap.size < wr.heap.size := by omega
        clear hB hV c0 c1_ c2 c3 c4 c5 c6 c7 c8 fz
        go_wp2_with fail
        clear k2
        go_loopw [16, 20, 59] (fun o _ x wx => ∃ (q : Nat) (v : Value), q ≤ (R i).ls.length ∧ x = .int .i64 q ∧ v = o ∧ Below w1.heap.size w1 wx ∧ w1.heap.size + 2 ≤ wx.heap.size ∧ wx.ownsRow (w1.heap.size + 2) 43 9 v ((R i).ws.length + q) (flatC (told ref true text (R i)) ((R i).ws.length + q))) (fun _ _ x _ => (R i).ls.length - (intOf x).toNat)
        case atStart => exact ⟨0, _, Nat.zero_le _, rfl, rfl, HBx.out, by have := HG.out.sz; omega, HV.out⟩
        case round =>
          clear HBx HV HG
          obtain ⟨q, v, hq, rfl, rfl, hB, hsz2, hV⟩ := hrel
          obtain ⟨Av, cv, rfl, v1, v2, _⟩ := own_any hV
          have HBx := Lib.hid hB
          have HV := Lib.hid hV
          have hBs := hB.size
          by_cases hlt : q < (R i).ls.length
          · obtain ⟨bl, ol, rfl, hbl, hcl⟩ := HRL.out (by omega)
            have f0 : wr.cell? ⟨bl, ol + q, none⟩ = some (.int .i64 (lst (R i).ls q)) := (hB.cell (p := ⟨bl, _, none⟩) hbl).trans (by simpa using hcl q hlt 0 _ rfl)
            have HT := Lib.hid (show told ref true text (R i) ((R i).ws.length + q) = ltC 5 ref (lst (R i).ls q) 0 text by unfold told; rw [if_neg (by omega), Nat.add_sub_cancel_left])
            generalize lst (R i).ls q = z at *
            have m0 : (0 : Int) ≤ (q : Int) := by omega
            have m1 : (q : Int) < ((R i).ls.length : Int) := by omega
            have HKL := Lib.hid (show (R i).ws.length + q ≤ 1000 by omega)
            clear hcl hB hV hBs
            go_wp2_with (at_builtin; go_loud (refine wpList_append_own_at _ rfl _ _ 45 rfl (w1.heap.size + 2) 43 i0 _ 9 104 Tryz.underlying45 hi0 hz0 hz1 hz2 rfl (by omega) (.slice Av ((R i).ws.length + q) cv) ((R i).ws.length + q) (flatC (told ref true text (R i)) ((R i).ws.length + q)) rfl (HV.out.alloc _) ⟨wr.heap.size, 0, none⟩ 1 1 (ltC 5 ref z 0 text) rfl rfl (cell_newL _ _ _ _ (by simp)) (ltC_one _ _ _ _ _) (by have := HKL.out; unfold maxLen; omega) (by have := HKL.out; omega) (by simp; omega) ?_; intro v8 w8 hown8 hgrow8 _ _; have HO8 := Lib.hid hown8; have HG8 := Lib.hid hgrow8; clear hown8 hgrow8))
            have HBK := Lib.hid (fun g (hg : (Value.slice Av ((R i).ws.length + q) cv).ownBlock = some g) => (HV.out.lt g hg).1)
            refine ⟨⟨q + 1, v8, by omega, by go_num, rfl, ?_, by have := HG8.out.size; simp at this; omega, ?_⟩, by simp [intOf]; omega⟩
            · exact below_grown (HBx.out.alloc (by omega) _) (by simp; omega) HG8.out (fun g hg => by have := HBK.out g hg; omega)
            · rw [show (R i).ws.length + (q + 1) = ((R i).ws.length + q) + 1 by omega, flatC, HT.out]
              exact HO8.out
          · obtain rfl : q = (R i).ls.length := by omega
            have HOX := Lib.hid (HO.out.below HBx.out)
            have w1i : IntKind.i64.wrap ((i : Int) + 1) = (i : Int) + 1 := by rw [IntKind.wrap_i64]; omega
            have j2 : (i : Int) + 1 ≤ (n : Int) := by omega
            clear hB hV
            go_wp2_with fail
            refine (del_one w.heap.size g c1 n i (flatC (rwC R vw1 vl1) n) _ hin HOX.out.row HOX.out.one).mono ?_
            rintro e w9 ⟨rfl, hown9, hg9⟩
            have HO9 := Lib.hid hown9
            have HG9 := Lib.hid hg9
            clear hown9 hg9
            go_wp2_with fail
            go_ret3
            refine ⟨some ⟨g, 0, none⟩, c1, delF vw1 i, delF vl1 i, Av, cv, rfl, HOX.out.del hin HG9.out HO9.out, ?_, ?_⟩
            · exact own_mono (own_grown HV.out HG9.out (fun k hk e => by have := (HV.out.lt k hk).1; injection e with e; omega)) (by omega)
            · exact below_grown (HB.out.trans (HBx.out.mono hz)) (by omega) HG9.out (fun k hk => by injection hk with hk; omega)
end Go.Proofs.YtjjfglbcikaicaaGreat.Li
namespace Go.Proofs.YtjjfglbcikaicaaGreat.Li
open Go.RowKit
set_option linter.unusedVariables false
theorem own_at {w : World} {base : Nat} {e : TypeId} {sz n : Nat} {v : Value} {xs : List Value} (h : w.ownsRow base e sz v n xs) {k : Nat} (hk : v.ownBlock = some k) : ∃ cur, w.heap[k]? = some (.cells cur e (0, 0)) := by
  rcases h.2 with ⟨hv, _⟩ | ⟨g, cap, cur, hv, hb, hg, _⟩
  · rw [hv] at hk; cases hk
  · have : g = k := by rw [hv] at hk; simpa [Value.ownBlock] using hk
    subst this
    exact ⟨cur, hg⟩
/-- rows of different types lie apart -/
theorem own_apart {w : World} {b b' : Nat} {e e' : TypeId} {sz sz' n n' : Nat} {v v' : Value} {xs xs' : List Value} (h : w.ownsRow b e sz v n xs) (h' : w.ownsRow b' e' sz' v' n' xs') (hne : e ≠ e') : ∀ k, v.ownBlock = some k → v'.ownBlock ≠ some k := by
  intro k hk hk'
  obtain ⟨c, hc⟩ := own_at h hk
  obtain ⟨c', hc'⟩ := own_at h' hk'
  rw [hc] at hc'
  injection hc' with hc'
  injection hc' with _ h2 _
  exact hne h2
theorem iv_ins (vw vl : Nat → Value) (p j : Nat) (x y : Value) (s : Bool) : iv (insF vw p x) (insF vl p y) j s = if j = p then (if s then x else y) else iv vw vl (if j < p then j else j - 1) s := by
  unfold iv insF
  by_cases e : j = p
  · subst e
    cases s <;> simp
  · rw [if_neg e]
    cases s <;> simp only [Bool.false_eq_true, if_false, if_true, e] <;> split <;> rfl
theorem il_ins (R : Nat → LR) (p j : Nat) (r : LR) (s : Bool) : il (insF R p r) j s = if j = p then (if s then r.ws else r.ls) else il R (if j < p then j else j - 1) s := by
  unfold il insF
  by_cases e : j = p
  · subst e
    cases s <;> simp
  · rw [if_neg e]
    cases s <;> simp only [Bool.false_eq_true, if_false, if_true, e] <;> split <;> rfl
theorem rwC_ins (R : Nat → LR) (vw vl : Nat → Value) (p : Nat) (r : LR) (x y : Value) : rwC (insF R p r) (insF vw p x) (insF vl p y) = insF (rwC R vw vl) p [.int .i64 r.ref, x, y] := by
  funext k
  unfold rwC insF
  split
  · rfl
  · split <;> rfl
/-- a row more, without watches and links -/
theorem OwnL.ins {w w2 : World} {base n p : Nat} {v v' : Value} {R : Nat → LR} {vw vl : Nat → Value} {ref : Int} {row : Option Nat} (h : OwnL w base v n R vw vl) (hp : p ≤ n) (hg : w.grownBy w2 row) (hrow : ∀ k, row = some k → v.ownBlock = some k)
    (hown : w2.ownsRow base 132 3 v' (n + 1) ((flatC (rwC R vw vl) n).take (p * 3) ++ [.int .i64 ref, .slice none 0 0, .slice none 0 0] ++ (flatC (rwC R vw vl) n).drop (p * 3))) :
    OwnL w2 base v' (n + 1) (insF R p ⟨ref, [], []⟩) (insF vw p (.slice none 0 0)) (insF vl p (.slice none 0 0)) := by
  have hx : ∀ j, j < n + 1 → j ≠ p → (if j < p then j else j - 1) < n := fun j hj hne => by split <;> omega
  have hnil : ∀ s : Bool, (if s then (Value.slice none 0 0) else (Value.slice none 0 0)) = .slice none 0 0 := fun s => by cases s <;> rfl
  have heach : ∀ j, j < n + 1 → ∀ s, OwnI w2 base (iv (insF vw p (.slice none 0 0)) (insF vl p (.slice none 0 0)) j s) (il (insF R p ⟨ref, [], []⟩) j s) := fun j hj s => by
    rw [iv_ins, il_ins]
    by_cases e : j = p
    · rw [if_pos e, if_pos e, hnil]
      cases s <;> exact OwnI.nil _ _
    · rw [if_neg e, if_neg e]
      exact (h.each _ (hx j hj e) s).grown hg (fun k hk e2 => h.outer _ (hx j hj e) s k hk (hrow k e2))
  refine ⟨?_, heach, fun a b ha hb s t hst k hk => ?_, fun j hj s k hk => ?_⟩
  · rw [ins_flatG (rwC_len _ _ _) hp (rwC_ins R vw vl p ⟨ref, [], []⟩ _ _)] at hown
    exact hown
  · rw [iv_ins] at hk ⊢
    by_cases e : a = p
    · rw [if_pos e, hnil] at hk; cases hk
    · rw [if_neg e] at hk
      by_cases e2 : b = p
      · rw [if_pos e2, hnil]; exact fun h => by cases h
      · rw [if_neg e2]
        refine h.apart _ _ (hx a ha e) (hx b hb e2) s t (fun h2 => hst ⟨?_, h2.2⟩) k hk
        have := h2.1
        split at this <;> split at this <;> omega
  · exact own_apart (heach j hj s) hown (by decide) k hk
set_option maxHeartbeats 4000000 in
set_option maxRecDepth 100000 in
/-- Insert of one element into nothing -/
theorem ins_nil (base vb : Nat) (r : List Value) (w : World) (hb : base ≤ w.heap.size) (hvb : w.heap[vb]? = some (.cells r.toArray 132 (0, 0))) (hr : r.length = 3) (h1r : ∀ v ∈ r, v.oneCell' = true) :
    Calls Tryz.prog 106 #[.slice none 0 0, .int .i64 0, .slice (some ⟨vb, 0, none⟩) 1 1] w fun e w' => ∃ v, e = .returned v ∧ w'.ownsRow base 132 3 v 1 r ∧ w.grownBy w' none := by
  obtain ⟨i0, hi0, hz0, hzs, hzb⟩ := info_parts infoR
  have HV := Lib.hid (show ∀ j u, r[j]? = some u → w.cell? ((⟨vb, 0, none⟩ : Addr).add j) = some u from fun j u hj => by rw [Addr.add_lit, cell_of_row hvb]; simpa using hj)
  have H1 := Lib.hid h1r
  have HR := Lib.hid hr
  clear hvb hr h1r
  go_enter Tryz.func106, Tryz.ntmps106
  go_wp2_with (at_builtin; go_loud (refine wpList_append_own_at _ rfl _ _ 101 rfl base 132 i0 _ 3 56 Tryz.underlying101 hi0 hz0 hzs hzb rfl (by omega) (.slice none 0 0) 0 [] rfl (World.ownsRow_nil _ _ _ _) ⟨vb, 0, none⟩ 1 1 r rfl (by rw [HR.out]) HV.out H1.out (by unfold maxLen; omega) (by omega) (by omega) ?_; intro v1 w1 hown1 hgrow1 _ _; have HO1 := Lib.hid hown1; have HG1 := Lib.hid hgrow1; clear hown1 hgrow1))
  all_goals
    go_ret
    exact ⟨_, rfl, HO1.out, HG1.out⟩
/-- where a new row comes -/
def PosL (R : Nat → LR) (n : Nat) (ref : Int) (p : Nat) : Prop := p ≤ n ∧ (∀ k, k < p → (R k).ref < ref) ∧ (p < n → ref < (R p).ref)
def AddOk (R : Nat → LR) (n : Nat) (ref : Int) : Prop := OkL R n ∧ 1 ≤ ref ∧ (∀ k, k < n → (R k).ref ≠ ref) ∧ n ≠ 100
theorem rows_ref_one (a : Int) : ∀ u ∈ ([.int .i64 a, .slice none 0 0, .slice none 0 0] : List Value), u.oneCell' = true := by
  intro u hu
  simp at hu
  rcases hu with rfl | rfl <;> rfl
def AddPost (R : Nat → LR) (n : Nat) (ref : Int) (w : World) (e : Ending) (w' : World) : Prop := (¬ AddOk R n ref ∧ RowsBad w e w') ∨ (AddOk R n ref ∧ ∃ p, PosL R n ref p ∧ RowsOk (insF R p ⟨ref, [], []⟩) (n + 1) w e w')
set_option maxRecDepth 100000 in
set_option maxHeartbeats 4000000 in
theorem add_any (A : Option Addr) (n c : Nat) (R : Nat → LR) (vw vl : Nat → Value) (ref : Int) (w : World) (hn : n ≤ c) (hc : c ≤ 9223372036854775807) (hR : RdL w A n R vw vl) :
    Calls Tryz.prog 77 #[.slice A n c, .int .i64 ref] w (AddPost R n ref w) := by
  have HR := Lib.hid hR
  clear hR
  go_enter Tryz.func77, Tryz.ntmps77
  go_wp2_with fail
  refine (check_any A n c R vw vl _ hn hc HR.out).mono ?_
  rintro e w1 ⟨x, rfl, hx, hb⟩
  have HB1 := Lib.hid hb
  have HX := Lib.hid hx
  have hs1 := hb.size
  clear hb hx
  by_cases hx0 : x = 0
  rotate_left
  · have e0 : (x != 0) = true := by simpa using hx0
    have HX0 := Lib.hid hx0
    clear hx0
    go_wp2_with fail
    go_ret2
    exact .inl ⟨fun h => HX0.out (HX.out.2 h.1), x, HX0.out, rfl, HB1.out⟩
  subst hx0
  have HK := Lib.hid (HX.out.1 rfl)
  have hn100 := HK.out.1
  go_wp2_with fail
  go_loop [7] (fun x => ∃ k : Nat, k ≤ n ∧ x = .int .i64 k ∧ ∀ j, j < k → (R j).ref < ref) (fun x => n - (intOf x).toNat)
  case atStart => exact ⟨0, Nat.zero_le _, rfl, fun j hj => by omega⟩
  case round =>
    obtain ⟨k, hk, rfl, hlow⟩ := hrel
    have HLOW := Lib.hid hlow
    clear hlow
    have m0 : (0 : Int) ≤ (k : Int) := by omega
    have bad : ∀ y : Int, y ≠ 0 → ¬ AddOk R n ref → AddPost R n ref w (.returned (.tuple #[.slice none 0 0, .int .i64 y])) w1 := fun y hy h => .inl ⟨h, y, hy, rfl, HB1.out⟩
    have BAD := Lib.hid bad
    clear bad
    by_cases hlt : k < n
    · obtain ⟨b, off, rfl, hb, hcell⟩ := HR.out.row (by omega)
      have c0 : w1.cell? ⟨b, off + k * 3, none⟩ = some (.int .i64 (R k).ref) := (HB1.out.cell (p := ⟨b, _, none⟩) hb).trans (hcell k hlt 0 _ rfl)
      have m1 : (k : Int) < (n : Int) := by omega
      clear hcell
      by_cases hl : (R k).ref < ref
      · have dl : decide ((R k).ref < ref) = true := by simpa using hl
        go_wp2_with fail
        go_round
        case rel =>
          refine ⟨k + 1, by omega, by go_num, fun j hj => ?_⟩
          by_cases e : j = k
          · subst e; exact hl
          · exact HLOW.out j (by omega)
        case measure => simp [intOf]; omega
      · have dl : decide ((R k).ref < ref) = false := by simpa using hl
        by_cases h1 : ref < 1
        · have d1 : decide (ref < 1) = true := by simpa using h1
          go_wp2_with fail
          go_ret2
          exact BAD.out 1 (by omega) (fun h => by have := h.2.1; omega)
        have d1 : decide (ref < 1) = false := by simpa using h1
        by_cases h2 : (R k).ref = ref
        · have d2 : ((R k).ref == ref) = true := by simpa using h2
          go_wp2_with fail
          go_ret2
          exact BAD.out 5 (by omega) (fun h => h.2.2.1 k hlt h2)
        have d2 : ((R k).ref == ref) = false := by simpa using h2
        by_cases h3 : n = 100
        · have d3 : ((n : Int) == 100) = true := by simp; omega
          have H3 := Lib.hid h3
          clear h3
          go_wp2_with fail
          go_ret2
          exact BAD.out 6 (by omega) (fun h => h.2.2.2 H3.out)
        have d3 : ((n : Int) == 100) = false := by simp; omega
        have HPOS := Lib.hid (show PosL R n ref k from ⟨hk, HLOW.out, fun h => by omega⟩)
        have HAOK := Lib.hid (show AddOk R n ref from ⟨HK.out, by omega, fun j hj he => by
          rcases Nat.lt_trichotomy j k with hlt2 | e | hlt2
          · have := HLOW.out j hlt2; omega
          · subst e; exact h2 he
          · have := HK.out.mono k j hlt2 hj; omega, h3⟩)
        clear h1 h3 h2
        go_wp2_with fail
        refine (copy_any (some ⟨b, off, none⟩) n c R vw vl _ hn hc hn100 (HR.out.below HB1.out) (fun j hj => ⟨(HK.out.2 j hj).2.1, (HK.out.2 j hj).2.2.1⟩)).mono ?_
        rintro e w3 ⟨v, vw', vl', rfl, hO, hb3⟩
        have HO := Lib.hid (hO.below ((Below.refl _ _).alloc (Nat.le_refl _) (.cells #[.int .i64 ref, .slice none 0 0, .slice none 0 0] 132)))
        have HB3 := Lib.hid (HB1.out.trans (hb3.mono hs1))
        have hs3 := hb3.size
        have HVB := Lib.hid (show (w3.alloc (.cells #[.int .i64 ref, .slice none 0 0, .slice none 0 0] 132)).heap[w3.heap.size]? = some (.cells ([.int .i64 ref, .slice none 0 0, .slice none 0 0] : List Value).toArray 132 (0, 0)) from by show (w3.heap.push _)[w3.heap.size]? = _; simp)
        have hrow := hO.row
        clear hO hb3 c0
        rcases hrow.2 with ⟨hv, h0⟩ | ⟨g, cap, cur, hv, _⟩
        · omega
        · subst hv
          have HGB := Lib.hid (own_lt hrow)
          clear hrow
          go_wp2_with fail
          refine (ins_any w1.heap.size g cap n k w3.heap.size (flatC (rwC R vw' vl') n) [.int .i64 ref, .slice none 0 0, .slice none 0 0] _ hk (by omega) HO.out.row HVB.out (by have := HGB.out.2; omega) rfl HO.out.one (rows_ref_one _)).mono ?_
          rintro e w4 ⟨v4, rfl, hown4, hg4⟩
          obtain ⟨A4, c4, rfl, _⟩ := own_any hown4
          have HO4 := Lib.hid hown4
          have HG4 := Lib.hid hg4
          clear hown4 hg4
          go_wp2_with fail
          go_ret2
          refine .inr ⟨HAOK.out, k, HPOS.out, A4, c4, _, _, rfl, (HO.out.ins hk HG4.out (fun j hj => hj) HO4.out).mono hs1, ?_⟩
          exact below_grown (HB3.out.alloc (by omega) _) (by simp; omega) HG4.out (fun j hj => by injection hj with hj; have := HGB.out.1; omega)
    · obtain rfl : k = n := by omega
      by_cases h1 : ref < 1
      · have d1 : decide (ref < 1) = true := by simpa using h1
        go_wp2_with fail
        go_ret2
        exact BAD.out 1 (by omega) (fun h => by have := h.2.1; omega)
      have d1 : decide (ref < 1) = false := by simpa using h1
      by_cases h3 : k = 100
      · have d3 : ((k : Int) == 100) = true := by simp; omega
        have H3 := Lib.hid h3
        clear h3
        go_wp2_with fail
        go_ret2
        exact BAD.out 6 (by omega) (fun h => h.2.2.2 H3.out)
      have d3 : ((k : Int) == 100) = false := by simp; omega
      have HPOS := Lib.hid (show PosL R k ref k from ⟨Nat.le_refl _, HLOW.out, fun h => by omega⟩)
      have HAOK := Lib.hid (show AddOk R k ref from ⟨HK.out, by omega, fun j hj he => by
        rcases Nat.lt_trichotomy j k with hlt2 | e | hlt2
        · have := HLOW.out j hlt2; omega
        · omega
        · omega, h3⟩)
      clear h1 h3
      go_wp2_with fail
      refine (copy_any A k c R vw vl _ hn hc hn100 (HR.out.below HB1.out) (fun j hj => ⟨(HK.out.2 j hj).2.1, (HK.out.2 j hj).2.2.1⟩)).mono ?_
      rintro e w3 ⟨v, vw', vl', rfl, hO, hb3⟩
      have HO := Lib.hid (hO.below ((Below.refl _ _).alloc (Nat.le_refl _) (.cells #[.int .i64 ref, .slice none 0 0, .slice none 0 0] 132)))
      have HB3 := Lib.hid (HB1.out.trans (hb3.mono hs1))
      have hs3 := hb3.size
      have HVB := Lib.hid (show (w3.alloc (.cells #[.int .i64 ref, .slice none 0 0, .slice none 0 0] 132)).heap[w3.heap.size]? = some (.cells ([.int .i64 ref, .slice none 0 0, .slice none 0 0] : List Value).toArray 132 (0, 0)) from by show (w3.heap.push _)[w3.heap.size]? = _; simp)
      have hrow := hO.row
      clear hO hb3
      rcases hrow.2 with ⟨hv, h0⟩ | ⟨g, cap, cur, hv, _⟩
      · subst hv h0
        skip
        clear hrow
        go_wp2_with fail
        refine (ins_nil w.heap.size w3.heap.size [.int .i64 ref, .slice none 0 0, .slice none 0 0] _ (by simp; omega) HVB.out rfl (rows_ref_one _)).mono ?_
        rintro e w4 ⟨v4, rfl, hown4, hg4⟩
        obtain ⟨A4, c4, rfl, _⟩ := own_any hown4
        have HO4 := Lib.hid hown4
        have HG4 := Lib.hid hg4
        clear hown4 hg4
        go_wp2_with fail
        go_ret2
        refine .inr ⟨HAOK.out, 0, HPOS.out, A4, c4, _, _, rfl, (HO.out.mono hs1).ins (Nat.zero_le _) HG4.out (fun q hq => by cases hq) (by simpa [flatC] using HO4.out), ?_⟩
        exact below_grown (HB3.out.alloc (by omega) _) (by simp; omega) HG4.out (fun q hq => by cases hq)
      · subst hv
        have HGB := Lib.hid (own_lt hrow)
        clear hrow
        go_wp2_with fail
        refine (ins_any w1.heap.size g cap k k w3.heap.size (flatC (rwC R vw' vl') k) [.int .i64 ref, .slice none 0 0, .slice none 0 0] _ (Nat.le_refl _) (by omega) HO.out.row HVB.out (by have := HGB.out.2; omega) rfl HO.out.one (rows_ref_one _)).mono ?_
        rintro e w4 ⟨v4, rfl, hown4, hg4⟩
        obtain ⟨A4, c4, rfl, _⟩ := own_any hown4
        have HO4 := Lib.hid hown4
        have HG4 := Lib.hid hg4
        clear hown4 hg4
        go_wp2_with fail
        go_ret2
        refine .inr ⟨HAOK.out, k, HPOS.out, A4, c4, _, _, rfl, (HO.out.ins (Nat.le_refl _) HG4.out (fun j hj => hj) HO4.out).mono hs1, ?_⟩
        exact below_grown (HB3.out.alloc (by omega) _) (by simp; omega) HG4.out (fun j hj => by injection hj with hj; have := HGB.out.1; omega)
def R0 : Nat → LR := fun _ => ⟨0, [], []⟩
end Go.Proofs.YtjjfglbcikaicaaGreat.Li
