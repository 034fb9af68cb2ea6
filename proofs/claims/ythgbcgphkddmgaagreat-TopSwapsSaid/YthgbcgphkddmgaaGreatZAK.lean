/- Rows of watches and links: what they read as; link.Check; finding a row. Rows of the call's own; link.copyOf. link.copyOf. link.begin, and finding a row. link.Watch and link.Link. -/
import Derived.Test.YthgbcgphkddmgaaGreatZAD
import Derived.Deep.DeepCutAuto
import Derived.Deep.RegionHeld3
import Derived.Deep.AppendLies
namespace Go.Proofs.YthgbcgphkddmgaaGreat.Li
open Go.RowKit
set_option linter.unusedVariables false
structure LR where
  ref : Int
  ws : List Int
  ls : List Int
/-- a slice that reads as the numbers l -/
def Sl (w : World) (v : Value) (l : List Int) : Prop := ∃ A c, v = .slice A l.length c ∧ l.length ≤ c ∧ c ≤ 9223372036854775807 ∧ (A = none → l.length = 0) ∧ Rd w 1 (tmC (lst l)) A l.length
theorem Sl.below {w w' : World} {v : Value} {l : List Int} (h : Sl w v l) (hb : Below w.heap.size w w') : Sl w' v l := by
  obtain ⟨A, c, e, h1, h2, h3, h4⟩ := h
  exact ⟨A, c, e, h1, h2, h3, h4.below hb⟩
theorem Sl.of_own {w : World} {base : Nat} {v : Value} {l : List Int} (h : OwnI w base v l) : Sl w v l := by
  obtain ⟨A, c, rfl, h1, h2, h3⟩ := own_any h
  exact ⟨A, c, rfl, h1, h2, h3, h.rd⟩
def rwC (R : Nat → LR) (vw vl : Nat → Value) : Nat → List Value := fun k => [.int .i64 (R k).ref, vw k, vl k]
theorem rwC_len (R : Nat → LR) (vw vl : Nat → Value) : ∀ k, (rwC R vw vl k).length = 3 := fun _ => rfl
structure RdL (w : World) (A : Option Addr) (n : Nat) (R : Nat → LR) (vw vl : Nat → Value) : Prop where
  row : Rd w 3 (rwC R vw vl) A n
  each : ∀ k, k < n → Sl w (vw k) (R k).ws ∧ Sl w (vl k) (R k).ls
theorem RdL.below {w w' : World} {A : Option Addr} {n : Nat} {R : Nat → LR} {vw vl : Nat → Value} (h : RdL w A n R vw vl) (hb : Below w.heap.size w w') : RdL w' A n R vw vl :=
  ⟨h.row.below hb, fun k hk => ⟨(h.each k hk).1.below hb, (h.each k hk).2.below hb⟩⟩
def ClearL (l : List Int) : Prop := ∀ q, q < l.length → lst l q ∉ l.take q
def OkR (R : Nat → LR) (k : Nat) : Prop := 1 ≤ (R k).ref ∧ (R k).ws.length ≤ 100 ∧ (R k).ls.length ≤ 100 ∧ (0 < k → (R (k - 1)).ref < (R k).ref) ∧ ClearL (R k).ls
def OkL (R : Nat → LR) (n : Nat) : Prop := n ≤ 100 ∧ ∀ k, k < n → OkR R k
def ChkPost (Ok : Prop) (w : World) (e : Ending) (w' : World) : Prop := ∃ x : Int, e = .returned (.int .i64 x) ∧ (x = 0 ↔ Ok) ∧ Below w.heap.size w w'
theorem take_lst (l : List Int) (q : Nat) (hq : q ≤ l.length) (x : Int) : anyOf (fun k => x == lst l k) q = decide (x ∈ l.take q) := by
  have h := any_lst (l.take q) x
  rw [← h]
  have hl : (l.take q).length = q := by simp; omega
  rw [hl]
  rw [Bool.eq_iff_iff, anyOf_true, anyOf_true]
  constructor
  all_goals
    rintro ⟨k, hk, hp⟩
    refine ⟨k, hk, ?_⟩
    simpa [lst, hk] using hp
set_option maxRecDepth 100000 in
set_option maxHeartbeats 4000000 in
theorem check_any (A : Option Addr) (n c : Nat) (R : Nat → LR) (vw vl : Nat → Value) (w : World) (hn : n ≤ c) (hc : c ≤ 9223372036854775807) (hR : RdL w A n R vw vl) :
    Calls Tryz.prog 155 #[.slice A n c] w (ChkPost (OkL R n) w) := by
  have HR := Lib.hid hR
  clear hR
  by_cases h100 : 100 < n
  · have e6 : decide ((100 : Int) < (n : Int)) = true := by simp; omega
    go_enter Tryz.func155, Tryz.ntmps155
    go_wp2_with fail
    go_ret
    exact ⟨2, rfl, ⟨fun h => by omega, fun h => by have := h.1; omega⟩, Below.refl _ _⟩
  have e6 : decide ((100 : Int) < (n : Int)) = false := by simp; omega
  go_enter Tryz.func155, Tryz.ntmps155
  go_wp2_with fail
  go_loopw [2, 3, 4, 5, 6, 12, 17, 33, 50] (fun _ _ _ _ _ i _ _ _ wr => ∃ k : Nat, k ≤ n ∧ i = .int .i64 k ∧ (∀ j, j < k → OkR R j) ∧ Below w.heap.size w wr) (fun _ _ _ _ _ i _ _ _ _ => n - (intOf i).toNat)
  case atStart => exact ⟨0, Nat.zero_le _, rfl, fun j hj => by omega, Below.refl _ _⟩
  case round =>
    obtain ⟨k, hk, rfl, hlow, hB⟩ := hrel
    have HL := Lib.hid hlow
    have HB := Lib.hid hB
    have hBs := hB.size
    clear hlow
    by_cases hlt : k < n
    · obtain ⟨b, off, rfl, hb, hcell⟩ := HR.out.row (by omega)
      obtain ⟨⟨wA, wc, hvw, w1, w2, w3, hrw⟩, ⟨lA, lc, hvl, l1, l2, l3, hrl⟩⟩ := HR.out.each k hlt
      have c0 : wr.cell? ⟨b, off + k * 3, none⟩ = some (.int .i64 (R k).ref) := (hB.cell (p := ⟨b, _, none⟩) hb).trans (hcell k hlt 0 _ rfl)
      have c1 : wr.cell? ⟨b, off + k * 3 + 1, none⟩ = some (.slice wA (R k).ws.length wc) := (hB.cell (p := ⟨b, _, none⟩) hb).trans (hcell k hlt 1 _ (by simp [rwC, hvw]))
      have c2 : wr.cell? ⟨b, off + k * 3 + 2, none⟩ = some (.slice lA (R k).ls.length lc) := (hB.cell (p := ⟨b, _, none⟩) hb).trans (hcell k hlt 2 _ (by simp [rwC, hvl]))
      obtain ⟨r, hr⟩ : ∃ r, R k = r := ⟨_, rfl⟩
      have HCELL := Lib.hid hcell
      rw [hr] at c0 c1 c2 w1 w3 hrw l1 l3 hrl
      have HK := Lib.hid hr
      have HRL := Lib.hid hrl
      have HB2 := Lib.hid (hB.alloc hBs (.cells #[.int .i64 r.ref, .slice wA r.ws.length wc, .slice lA r.ls.length lc] 242))
      clear hr hcell hvw hvl hrw hrl w3 l3 hB
      have no : ∀ x : Int, x ≠ 0 → ¬ OkR R k → ChkPost (OkL R n) w (.returned (.int .i64 x)) (wr.alloc (.cells #[.int .i64 r.ref, .slice wA r.ws.length wc, .slice lA r.ls.length lc] 242)) := fun x hx hno => ⟨x, rfl, ⟨fun h => absurd h hx, fun h => absurd (h.2 k hlt) hno⟩, HB2.out⟩
      have NO := Lib.hid no
      clear no
      by_cases q1 : r.ref < 1
      · have d1 : decide (r.ref < 1) = true := by simpa using q1
        go_wp2_with fail
        go_ret
        exact NO.out 1 (by omega) (fun h => by have := h.1; rw [HK.out] at this; omega)
      have d1 : decide (r.ref < 1) = false := by simpa using q1
      by_cases q2 : 100 < r.ws.length
      · have d2 : decide ((100 : Int) < (r.ws.length : Int)) = true := by simp; omega
        go_wp2_with fail
        go_ret
        exact NO.out 1 (by omega) (fun h => by have := h.2.1; rw [HK.out] at this; omega)
      have d2 : decide ((100 : Int) < (r.ws.length : Int)) = false := by simp; omega
      by_cases q3 : 100 < r.ls.length
      · have d3 : decide ((100 : Int) < (r.ls.length : Int)) = true := by simp; omega
        go_wp2_with fail
        go_ret
        exact NO.out 1 (by omega) (fun h => by have := h.2.2.1; rw [HK.out] at this; omega)
      have d3 : decide ((100 : Int) < (r.ls.length : Int)) = false := by simp; omega
      have j1 : (k : Int) < (n : Int) := by omega
      have j2 : (0 : Int) ≤ (k : Int) := by omega
      have hbr : b < wr.heap.size := by omega
      obtain ⟨bad, hbad⟩ : ∃ bad : Bool, bad = (decide (0 < k) && decide (r.ref ≤ (R (k - 1)).ref)) := ⟨_, rfl⟩
      have HBAD := Lib.hid hbad
      clear hbad
      go_wp2_with fail
      go_cut [33] (fun x wx => x = .bool bad ∧ ∃ q, wx = (wr.alloc (.cells #[.int .i64 r.ref, .slice wA r.ws.length wc, .slice lA r.ls.length lc] 242)).drewN q)
      case first =>
        by_cases q4 : 0 < k
        · have d4 : decide ((0 : Int) < (k : Int)) = true := by simp; omega
          have p0 : wr.cell? ⟨b, off + (k - 1) * 3, none⟩ = some (.int .i64 (R (k - 1)).ref) := (HB.out.cell (p := ⟨b, _, none⟩) hb).trans (HCELL.out (k - 1) (by omega) 0 _ rfl)
          have i3 : ((k : Int) - 1).toNat = k - 1 := by omega
          have i4 : IntKind.i64.wrap ((k : Int) - 1) = (k : Int) - 1 := by rw [IntWalk.i64_in _ (by omega)]
          have i5 : (0 : Int) ≤ (k : Int) - 1 := by omega
          have i6 : (k : Int) - 1 < (n : Int) := by omega
          have i7 : (1 : Int) ≤ (k : Int) := by omega
          by_cases q5 : r.ref ≤ (R (k - 1)).ref
          · have d5 : decide (r.ref ≤ (R (k - 1)).ref) = true := by simpa using q5
            go_quiet (fail)
            go_wp2_with fail
            go_meet
            exact ⟨by rw [HBAD.out]; simp [q4, q5], nq, rfl⟩
          · have d5 : decide (r.ref ≤ (R (k - 1)).ref) = false := by simpa using q5
            go_quiet (fail)
            go_wp2_with fail
            go_meet
            exact ⟨by rw [HBAD.out]; simp [q5], nq, rfl⟩
        · have d4 : decide ((0 : Int) < (k : Int)) = false := by simp; omega
          go_quiet (fail)
          go_wp2_with fail
          go_meet
          exact ⟨by rw [HBAD.out]; simp [q4], nq, rfl⟩
      case rest =>
      obtain ⟨hx, q, hwc⟩ := hcut
      subst hx hwc
      have HB3 := Lib.hid (below_drewN HB2.out q)
      have e2 : ((wr.alloc (.cells #[.int .i64 r.ref, .slice wA r.ws.length wc, .slice lA r.ls.length lc] 242)).drewN q).cell? ⟨wr.heap.size, 2, none⟩ = some (.slice lA r.ls.length lc) := by simp [go_sem]
      have HRL3 := Lib.hid ((HRL.out.below HB.out |>.alloc (.cells #[.int .i64 r.ref, .slice wA r.ws.length wc, .slice lA r.ls.length lc] 242)).below (below_drewN (Below.refl _ _) q))
      clear c0 c1 c2
      generalize (wr.alloc (.cells #[.int .i64 r.ref, .slice wA r.ws.length wc, .slice lA r.ls.length lc] 242)).drewN q = wx at *
      cases bad with
      | true =>
        go_wp2_with fail
        go_ret
        have hb2 := HBAD.out.symm
        simp only [Bool.and_eq_true, decide_eq_true_eq] at hb2
        exact ⟨21, rfl, ⟨fun h => by omega, fun h => by
          have h1 := (h.2 k hlt).2.2.2.1 hb2.1
          rw [HK.out] at h1
          omega⟩, HB3.out⟩
      | false =>
        have hgood : 0 < k → (R (k - 1)).ref < r.ref := fun h0 => by
          have hb2 := HBAD.out.symm
          simp only [Bool.and_eq_false_iff, decide_eq_false_iff_not] at hb2
          rcases hb2 with hb2 | hb2 <;> omega
        have HG := Lib.hid hgood
        clear hgood
        go_wp2_with fail
        go_loop [2, 5, 6, 50] (fun _ _ _ i => ∃ q : Nat, q ≤ r.ls.length ∧ i = .int .i64 q ∧ (∀ p, p < q → lst r.ls p ∉ r.ls.take p)) (fun _ _ _ i => r.ls.length - (intOf i).toNat)
        case atStart => exact ⟨0, Nat.zero_le _, rfl, fun j hj => by omega⟩
        case round =>
          obtain ⟨p, hp, rfl, hcl⟩ := hrel
          have HCL := Lib.hid hcl
          clear hcl
          by_cases hlp : p < r.ls.length
          · obtain ⟨bl, ol, rfl, hbl, hcl⟩ := HRL3.out (by omega)
            have f0 : wx.cell? ⟨bl, ol + p, none⟩ = some (.int .i64 (lst r.ls p)) := by simpa using hcl p hlp 0 _ rfl
            have k1 : (0 : Int) ≤ (p : Int) := by omega
            have k2 : (p : Int) ≤ (lc : Int) := by omega
            clear hcl
            go_wp2_with fail
            refine (containsI_any (some ⟨bl, ol, none⟩) p lc (lst r.ls) (lst r.ls p) _ (by omega) (HRL3.out.take (by omega))).mono ?_
            rintro e w2 ⟨rfl, rfl⟩
            rw [take_lst r.ls p (by omega)]
            by_cases hmem : lst r.ls p ∈ r.ls.take p
            · have HM := Lib.hid hmem
              rw [show decide (lst r.ls p ∈ r.ls.take p) = true from decide_eq_true hmem]
              clear hmem
              go_wp2_with fail
              go_ret
              exact ⟨5, rfl, ⟨fun h => by omega, fun h => by
                have h1 := (h.2 k hlt).2.2.2.2
                rw [HK.out] at h1
                exact absurd HM.out (h1 p hlp)⟩, HB3.out⟩
            · have HM := Lib.hid hmem
              rw [show decide (lst r.ls p ∈ r.ls.take p) = false from decide_eq_false hmem]
              clear hmem
              go_wp2_with fail
              go_round
              case rel =>
                refine ⟨p + 1, by omega, by go_num, fun j hj => ?_⟩
                by_cases e : j = p
                · rw [e]; exact HM.out
                · exact HCL.out j (by omega)
              case measure => simp [intOf]; omega
          · have HCL2 := Lib.hid (show ClearL r.ls from fun j hj => HCL.out j (by omega))
            obtain rfl : p = r.ls.length := by omega
            go_wp2_with fail
            go_roundw
            case rel =>
              refine ⟨k + 1, by omega, by go_num, fun j hj => ?_, HB3.out⟩
              by_cases e : j = k
              · subst e
                unfold OkR
                rw [HK.out]
                exact ⟨by omega, by omega, by omega, HG.out, HCL2.out⟩
              · exact HL.out j (by omega)
            case measure => simp [intOf]; omega
    · obtain rfl : k = n := by omega
      clear hB
      go_wp2_with fail
      go_ret
      exact ⟨0, rfl, ⟨fun _ => ⟨by omega, HL.out⟩, fun _ => rfl⟩, HB.out⟩
end Go.Proofs.YthgbcgphkddmgaaGreat.Li
namespace Go.Proofs.YthgbcgphkddmgaaGreat.Li
open Go.RowKit
set_option linter.unusedVariables false
theorem infoRow : (Tryz.prog.info? 242).map (fun i => (i.zero, i.size, i.bytes)) = some (some (.agg #[.int .i64 0, .slice none 0 0, .slice none 0 0]), 3, 56) := by kernel_rfl
/-- the two inner slices of each row, by a side -/
def iv (vw vl : Nat → Value) (k : Nat) (s : Bool) : Value := if s then vw k else vl k
def il (R : Nat → LR) (k : Nat) (s : Bool) : List Int := if s then (R k).ws else (R k).ls
structure OwnL (w : World) (base : Nat) (v : Value) (n : Nat) (R : Nat → LR) (vw vl : Nat → Value) : Prop where
  row : w.ownsRow base 242 3 v n (flatC (rwC R vw vl) n)
  each : ∀ k, k < n → ∀ s, OwnI w base (iv vw vl k s) (il R k s)
  apart : ∀ i j, i < n → j < n → ∀ s t, ¬ (i = j ∧ s = t) → ∀ k, (iv vw vl i s).ownBlock = some k → (iv vw vl j t).ownBlock ≠ some k
  outer : ∀ i, i < n → ∀ s k, (iv vw vl i s).ownBlock = some k → v.ownBlock ≠ some k
theorem OwnL.grown {w w' : World} {base : Nat} {v : Value} {n : Nat} {R : Nat → LR} {vw vl : Nat → Value} {row : Option Nat} (h : OwnL w base v n R vw vl) (hg : w.grownBy w' row) (h1 : ∀ k, v.ownBlock = some k → row ≠ some k)
    (h2 : ∀ i, i < n → ∀ s k, (iv vw vl i s).ownBlock = some k → row ≠ some k) : OwnL w' base v n R vw vl :=
  ⟨own_grown h.row hg h1, fun i hi s => (h.each i hi s).grown hg (h2 i hi s), h.apart, h.outer⟩
theorem OwnL.below {w w' : World} {base : Nat} {v : Value} {n : Nat} {R : Nat → LR} {vw vl : Nat → Value} (h : OwnL w base v n R vw vl) (hb : Below w.heap.size w w') : OwnL w' base v n R vw vl :=
  h.grown (grown_below (g := none) hb) (fun k _ e => by cases e) (fun i _ s k _ e => by cases e)
theorem OwnL.mono {w : World} {base base' : Nat} {v : Value} {n : Nat} {R : Nat → LR} {vw vl : Nat → Value} (h : OwnL w base v n R vw vl) (hb : base' ≤ base) : OwnL w base' v n R vw vl :=
  ⟨own_mono h.row hb, fun i hi s => (h.each i hi s).mono hb, h.apart, h.outer⟩
theorem OwnL.nil (w : World) (base : Nat) (R : Nat → LR) (vw vl : Nat → Value) : OwnL w base (.slice none 0 0) 0 R vw vl := ⟨World.ownsRow_nil _ _ _ _, fun i hi => by omega, fun i j hi => by omega, fun i hi => by omega⟩
theorem OwnL.rd {w : World} {base c : Nat} {A : Option Addr} {n : Nat} {R : Nat → LR} {vw vl : Nat → Value} (h : OwnL w base (.slice A n c) n R vw vl) : RdL w A n R vw vl :=
  ⟨Rd.of_own (rwC_len _ _ _) h.row, fun k hk => ⟨Sl.of_own (h.each k hk true), Sl.of_own (h.each k hk false)⟩⟩
def updV (vs : Nat → Value) (i : Nat) (x : Value) : Nat → Value := fun k => if k = i then x else vs k
/-- one row more -/
theorem OwnL.snoc {wr w1 w2 : World} {base : Nat} {v v' v1 v2 : Value} {n : Nat} {R : Nat → LR} {vw vl : Nat → Value} {o : Obj} (h : OwnL wr base v n R vw vl) (hbase : base ≤ wr.heap.size) (hb1 : Below wr.heap.size wr w1)
    (h1 : OwnI w1 wr.heap.size v1 (R n).ws) (h2 : OwnI w1 wr.heap.size v2 (R n).ls) (hap : ∀ k, v1.ownBlock = some k → v2.ownBlock ≠ some k) (hg : (w1.alloc o).grownBy w2 v.ownBlock)
    (hat : v'.ownBlock = v.ownBlock ∨ v'.ownBlock = some (w1.heap.size + 1)) (hown : w2.ownsRow base 242 3 v' (n + 1) (flatC (rwC R vw vl) n ++ [.int .i64 (R n).ref, v1, v2])) : OwnL w2 base v' (n + 1) R (updV vw n v1) (updV vl n v2) := by
  have hlt : ∀ i, i < n → ∀ s k, (iv vw vl i s).ownBlock = some k → k < wr.heap.size := fun i hi s k hk => ((h.each i hi s).blk k hk).2
  have hvlt : ∀ k, v.ownBlock = some k → k < wr.heap.size := fun k hk => (h.row.lt k hk).2
  have hs1 := hb1.size
  have g2 : w1.grownBy w2 v.ownBlock := grown_step (World.grownBy_alloc w1 o _) hg (.inl rfl)
  have hold : ∀ i, i < n → ∀ s, iv (updV vw n v1) (updV vl n v2) i s = iv vw vl i s := fun i hi s => by
    unfold iv updV
    simp only [if_neg (show ¬ i = n by omega)]
  have hnew : ∀ s, iv (updV vw n v1) (updV vl n v2) n s = if s then v1 else v2 := fun s => by
    unfold iv updV
    simp
  have hn12 : ∀ (s : Bool) k, (if s then v1 else v2).ownBlock = some k → wr.heap.size ≤ k ∧ k < w1.heap.size := fun s k hk => by
    cases s
    · exact h2.blk k hk
    · exact h1.blk k hk
  refine ⟨?_, fun i hi s => ?_, fun i j hi hj s t hst k hk => ?_, fun i hi s k hk => ?_⟩
  · have e : flatC (rwC R vw vl) n ++ [.int .i64 (R n).ref, v1, v2] = flatC (rwC R (updV vw n v1) (updV vl n v2)) (n + 1) := by
      rw [flatC]
      congr 1
      · exact flatC_congr fun k hk => by unfold rwC updV; simp only [if_neg (show ¬ k = n by omega)]
      · simp [rwC, updV]
    rw [← e]
    exact hown
  · by_cases e : i = n
    · subst e
      rw [hnew]
      have hsd : OwnI w1 wr.heap.size (if s then v1 else v2) (il R i s) := by
        cases s
        · exact h2
        · exact h1
      exact (hsd.mono hbase).grown g2 (fun k hk e => by have := (hn12 s k hk).1; have := hvlt k e; omega)
    · rw [hold i (by omega)]
      exact ((h.each i (by omega) s).below hb1).grown g2 (fun k hk => h.outer i (by omega) s k hk)
  · by_cases e : i = n
    · subst e
      rw [hnew] at hk
      by_cases e2 : j = i
      · subst e2
        rw [hnew]
        cases s <;> cases t
        · exact absurd ⟨rfl, rfl⟩ hst
        · exact fun e => hap k e hk
        · exact hap k hk
        · exact absurd ⟨rfl, rfl⟩ hst
      · rw [hold j (by omega)]
        intro e3
        have := (hn12 s k hk).1
        have := hlt j (by omega) t k e3
        omega
    · rw [hold i (by omega)] at hk
      by_cases e2 : j = n
      · subst e2
        rw [hnew]
        intro e3
        have := (hn12 t k e3).1
        have := hlt i (by omega) s k hk
        omega
      · rw [hold j (by omega)]
        exact h.apart i j (by omega) (by omega) s t hst k hk
  · by_cases e : i = n
    · subst e
      rw [hnew] at hk
      have hk1 := hn12 s k hk
      rcases hat with ha | ha
      · rw [ha]; intro e; have := hvlt k e; omega
      · rw [ha]; intro e; injection e with e; omega
    · rw [hold i (by omega)] at hk
      have hk1 := hlt i (by omega) s k hk
      rcases hat with ha | ha
      · rw [ha]; exact h.outer i (by omega) s k hk
      · rw [ha]; intro e; injection e with e; omega
end Go.Proofs.YthgbcgphkddmgaaGreat.Li
namespace Go.Proofs.YthgbcgphkddmgaaGreat.Li
open Go.RowKit
set_option linter.unusedVariables false
def CopyL (n : Nat) (R : Nat → LR) (w : World) (e : Ending) (w' : World) : Prop := ∃ v vw vl, e = .returned v ∧ OwnL w' w.heap.size v n R vw vl ∧ Below w.heap.size w w'
/-- a copy of a slice of numbers -/
theorem cloneSl (A : Option Addr) (c : Nat) (l : List Int) (w : World) (hS : Sl w (.slice A l.length c) l) (hl : l.length ≤ 1000000) :
    Calls Tryz.prog 24 #[.slice A l.length c] w fun e w' => ∃ A' c', e = .returned (.slice A' l.length c') ∧ OwnI w' w.heap.size (.slice A' l.length c') l ∧ Below w.heap.size w w' := by
  obtain ⟨A0, c0, e, h1, h2, h3, h4⟩ := hS
  injection e with e1 e2 e3
  subst e1 e3
  refine (cloneInt A l.length c (tmC (lst l)) w h4 (tmC_len _) (tmC_one _) h3 (by omega)).mono ?_
  rintro e w1 ⟨v1, rfl, hown1, hb1⟩
  rw [flatC_lst] at hown1
  obtain ⟨A1, c1, rfl, _, _, _⟩ := own_any hown1
  exact ⟨A1, c1, rfl, hown1, hb1⟩
theorem cells3_one (a : Int) (A B : Option Addr) (n m c d : Nat) : ∀ u ∈ ([.int .i64 a, .slice A n c, .slice B m d] : List Value), u.oneCell' = true := by
  intro u hu
  simp at hu
  rcases hu with rfl | rfl | rfl <;> rfl
theorem cell_new3 (W : World) (a b c : Value) (t : TypeId) (n : Nat) (hn : W.heap.size = n) : ∀ j u, [a, b, c][j]? = some u → (W.alloc (.cells #[a, b, c] t)).cell? ((⟨n, 0, none⟩ : Addr).add j) = some u := by
  intro j u hu
  rw [Addr.add_lit, World.cell?_alloc_at (w := W) #[a, b, c] t n (0 + j) hn.symm]
  simpa using hu
set_option maxRecDepth 100000 in
set_option maxHeartbeats 4000000 in
theorem copy_any (A : Option Addr) (n c : Nat) (R : Nat → LR) (vw vl : Nat → Value) (w : World) (hn : n ≤ c) (hc : c ≤ 9223372036854775807) (h8 : n ≤ 100) (hR : RdL w A n R vw vl) (hl : ∀ k, k < n → (R k).ws.length ≤ 100 ∧ (R k).ls.length ≤ 100) :
    Calls Tryz.prog 157 #[.slice A n c] w (CopyL n R w) := by
  obtain ⟨i0, hi, hz0, hz1, hz2⟩ := info_parts infoRow
  have HR := Lib.hid hR
  have HL := Lib.hid hl
  clear hR hl
  go_enter Tryz.func157, Tryz.ntmps157
  go_wp2_with fail
  go_loopw [3, 5, 8] (fun o _ x wr => ∃ (i : Nat) (v : Value) (vw' vl' : Nat → Value), i ≤ n ∧ x = .int .i64 i ∧ v = o ∧ OwnL wr w.heap.size v i R vw' vl' ∧ Below w.heap.size w wr) (fun _ _ x _ => n - (intOf x).toNat)
  case atStart => exact ⟨0, _, vw, vl, Nat.zero_le _, rfl, rfl, OwnL.nil _ _ _ _ _, Below.refl _ _⟩
  case round =>
    obtain ⟨i, v, vw', vl', hin, rfl, rfl, hO, hB⟩ := hrel
    have HO := Lib.hid hO
    have HB := Lib.hid hB
    have hBs := hB.size
    obtain ⟨Ao, co, rfl, hnco, hcmo, _⟩ := own_any hO.row
    by_cases hlt : i < n
    · obtain ⟨b, off, rfl, hb, hcell⟩ := HR.out.row (by omega)
      obtain ⟨hSw, hSl⟩ := HR.out.each i hlt
      have hSw' := hSw
      have hSl' := hSl
      obtain ⟨wA, wc, hvw, w1, w2, w3, hrw⟩ := hSw'
      obtain ⟨lA, lc, hvl, l1, l2, l3, hrl⟩ := hSl'
      have c0 : wr.cell? ⟨b, off + i * 3, none⟩ = some (.int .i64 (R i).ref) := (hB.cell (p := ⟨b, _, none⟩) hb).trans (hcell i hlt 0 _ rfl)
      have c1 : wr.cell? ⟨b, off + i * 3 + 1, none⟩ = some (.slice wA (R i).ws.length wc) := (hB.cell (p := ⟨b, _, none⟩) hb).trans (hcell i hlt 1 _ (by simp [rwC, hvw]))
      have c2 : wr.cell? ⟨b, off + i * 3 + 2, none⟩ = some (.slice lA (R i).ls.length lc) := (hB.cell (p := ⟨b, _, none⟩) hb).trans (hcell i hlt 2 _ (by simp [rwC, hvl]))
      rw [hvw] at hSw
      rw [hvl] at hSl
      have HSW := Lib.hid (hSw.below hB)
      have HSL := Lib.hid (hSl.below hB)
      obtain ⟨hl1, hl2⟩ := HL.out i hlt
      have HRI := Lib.hid (show ∀ x, rwC R (updV vw' i x) vl' i = rwC R (updV vw' i x) vl' i from fun _ => rfl)
      obtain ⟨r, hr⟩ : ∃ r, R i = r := ⟨_, rfl⟩
      rw [hr] at c0 c1 c2 HSW HSL hl1 hl2
      have HK := Lib.hid hr
      clear hr hO hB hcell hvw hvl hrw hrl w3 l3 hSw hSl w1 w2 l1 l2 HRI
      obtain ⟨ref, ws, ls⟩ := r
      dsimp only at *
      obtain ⟨W0, hW0⟩ : ∃ W0, W0 = wr.alloc (.cells #[.int .i64 ref, .slice wA ws.length wc, .slice lA ls.length lc] 242) := ⟨_, rfl⟩
      go_wp2_with fail
      rw [← hW0]
      have hz0' : W0.heap.size = wr.heap.size + 1 := by rw [hW0]; simp
      have hb0 : Below wr.heap.size wr W0 := by rw [hW0]; exact (Below.refl _ _).alloc (Nat.le_refl _) _
      have q0 : W0.drew.cell? ⟨wr.heap.size, 0, none⟩ = some (.int .i64 ref) := by show W0.cell? _ = _; rw [hW0]; simp
      have q1 : W0.drew.cell? ⟨wr.heap.size, 1, none⟩ = some (.slice wA ws.length wc) := by show W0.cell? _ = _; rw [hW0]; simp
      have q2 : W0.drew.cell? ⟨wr.heap.size, 2, none⟩ = some (.slice lA ls.length lc) := by show W0.cell? _ = _; rw [hW0]; simp
      have HB0 := Lib.hid (show Below wr.heap.size wr W0.drew from hb0.drew)
      have HSW0 := Lib.hid (HSW.out.below HB0.out)
      have HSL0 := Lib.hid (HSL.out.below HB0.out)
      have HZ0 := Lib.hid (show W0.drew.heap.size = wr.heap.size + 1 from hz0')
      clear hW0 hz0' hb0 c0 c1 c2
      go_region_held3 (fun w' => w'.cell? ⟨wr.heap.size, 0, none⟩ = some (.int .i64 ref) ∧ w'.cell? ⟨wr.heap.size, 1, none⟩ = some (.slice wA ws.length wc) ∧ w'.cell? ⟨wr.heap.size, 2, none⟩ = some (.slice lA ls.length lc))
        (first | exact ⟨q0, q1, q2⟩ | exact ⟨u0, u1, u2⟩ | exact ⟨v0, v1, v2⟩ | exact ⟨x0, x1, x2⟩ | go_keep)
        (first
          | (go_at_call 24; refine (cloneSl wA wc ws W0.drew HSW0.out (by omega)).mono ?_; rintro e w1 ⟨A1, a1, rfl, hown1, hb1⟩; have HX1 := Lib.hid hown1; have HY1 := Lib.hid hb1; have hs1 := hb1.size; have u0 := (hb1.cell (p := ⟨_, _, none⟩) (by show wr.heap.size < W0.drew.heap.size; rw [HZ0.out]; omega)).trans q0; have u1 := (hb1.cell (p := ⟨_, _, none⟩) (by show wr.heap.size < W0.drew.heap.size; rw [HZ0.out]; omega)).trans q1; have u2 := (hb1.cell (p := ⟨_, _, none⟩) (by show wr.heap.size < W0.drew.heap.size; rw [HZ0.out]; omega)).trans q2; clear hown1 hb1)
          | (go_at_call 24; refine (cloneSl lA lc ls w1 (HSL0.out.below HY1.out) (by omega)).mono ?_; rintro e w2 ⟨A2, a2, rfl, hown2, hb2⟩; have HO2 := Lib.hid (hown2.mono (show wr.heap.size ≤ w1.heap.size by have := HZ0.out; omega)); have HO1 := Lib.hid ((HX1.out.below hb2).mono (show wr.heap.size ≤ W0.drew.heap.size by have := HZ0.out; omega)); have HAP := Lib.hid (show ∀ k, (Value.slice A1 ws.length a1).ownBlock = some k → (Value.slice A2 ls.length a2).ownBlock ≠ some k from fun k hk1 hk2 => by have h1 := HX1.out.blk k hk1; have h2 := hown2.blk k hk2; omega); have HBB := Lib.hid ((HB0.out.trans (HY1.out.mono (show wr.heap.size ≤ W0.drew.heap.size by have := HZ0.out; omega))).trans (hb2.mono (show wr.heap.size ≤ w1.heap.size by have := HZ0.out; omega))); have hs2 := hb2.size; have v0 := (hb2.cell (p := ⟨_, _, none⟩) (by show wr.heap.size < w1.heap.size; have := HZ0.out; omega)).trans u0; have v1 := (hb2.cell (p := ⟨_, _, none⟩) (by show wr.heap.size < w1.heap.size; have := HZ0.out; omega)).trans u1; have v2 := (hb2.cell (p := ⟨_, _, none⟩) (by show wr.heap.size < w1.heap.size; have := HZ0.out; omega)).trans u2; clear hown2 hb2)
          | (go_at_call 24; refine (cloneSl lA lc ls W0.drew HSL0.out (by omega)).mono ?_; rintro e w1 ⟨A2, a2, rfl, hown1, hb1⟩; have HX2 := Lib.hid hown1; have HY1 := Lib.hid hb1; have hs1 := hb1.size; have u0 := (hb1.cell (p := ⟨_, _, none⟩) (by show wr.heap.size < W0.drew.heap.size; rw [HZ0.out]; omega)).trans q0; have u1 := (hb1.cell (p := ⟨_, _, none⟩) (by show wr.heap.size < W0.drew.heap.size; rw [HZ0.out]; omega)).trans q1; have u2 := (hb1.cell (p := ⟨_, _, none⟩) (by show wr.heap.size < W0.drew.heap.size; rw [HZ0.out]; omega)).trans q2; clear hown1 hb1)
          | (go_at_call 24; refine (cloneSl wA wc ws w1 (HSW0.out.below HY1.out) (by omega)).mono ?_; rintro e w2 ⟨A1, a1, rfl, hown2, hb2⟩; have HO1 := Lib.hid (hown2.mono (show wr.heap.size ≤ w1.heap.size by have := HZ0.out; omega)); have HO2 := Lib.hid ((HX2.out.below hb2).mono (show wr.heap.size ≤ W0.drew.heap.size by have := HZ0.out; omega)); have HAP := Lib.hid (show ∀ k, (Value.slice A1 ws.length a1).ownBlock = some k → (Value.slice A2 ls.length a2).ownBlock ≠ some k from fun k hk1 hk2 => by have h1 := HX2.out.blk k hk2; have h2 := hown2.blk k hk1; omega); have HBB := Lib.hid ((HB0.out.trans (HY1.out.mono (show wr.heap.size ≤ W0.drew.heap.size by have := HZ0.out; omega))).trans (hb2.mono (show wr.heap.size ≤ w1.heap.size by have := HZ0.out; omega))); have hs2 := hb2.size; have v0 := (hb2.cell (p := ⟨_, _, none⟩) (by show wr.heap.size < w1.heap.size; have := HZ0.out; omega)).trans u0; have v1 := (hb2.cell (p := ⟨_, _, none⟩) (by show wr.heap.size < w1.heap.size; have := HZ0.out; omega)).trans u1; have v2 := (hb2.cell (p := ⟨_, _, none⟩) (by show wr.heap.size < w1.heap.size; have := HZ0.out; omega)).trans u2; clear hown2 hb2)
          | (refine step_append_lies _ (by rfl) _ _ _ (by rfl) w.heap.size 242 i0 _ 3 56 Tryz.underlying130 hi hz0 hz1 hz2 rfl (by omega) (.slice Ao i co) i (flatC (rwC R vw' vl') i) (by rfl) ((own_keep HO.out.row HBB.out).alloc _) ⟨w2.heap.size, 0, none⟩ 1 1 [.int .i64 ref, .slice A1 ws.length a1, .slice A2 ls.length a2] (by rfl) (by rfl) (cell_new3 _ _ _ _ _ _ rfl) (cells3_one _ _ _ _ _ _ _) (by omega) (by unfold maxLen; omega) (by omega) (by simp; have := HZ0.out; omega) (w2.heap.size + 1) (by simp) ?_; intro g cap w5 hown5 hgrow5 hat5 hlt5; have hne : some wr.heap.size ≠ (Value.slice Ao i co).ownBlock := (fun e => by have := (HO.out.row.lt _ e.symm).2; omega); have x0 := (grown_cell (b := wr.heap.size) (o := 0) hgrow5 (by simp; have := HZ0.out; omega) hne).trans ((World.cell?_alloc_lt _ _ ⟨wr.heap.size, 0, none⟩ (by show wr.heap.size < w2.heap.size; have := HZ0.out; omega)).trans v0); have x1 := (grown_cell (b := wr.heap.size) (o := 1) hgrow5 (by simp; have := HZ0.out; omega) hne).trans ((World.cell?_alloc_lt _ _ ⟨wr.heap.size, 1, none⟩ (by show wr.heap.size < w2.heap.size; have := HZ0.out; omega)).trans v1); have x2 := (grown_cell (b := wr.heap.size) (o := 2) hgrow5 (by simp; have := HZ0.out; omega) hne).trans ((World.cell?_alloc_lt _ _ ⟨wr.heap.size, 2, none⟩ (by show wr.heap.size < w2.heap.size; have := HZ0.out; omega)).trans v2); have HO5 := Lib.hid hown5; have HG5 := Lib.hid hgrow5; have HA5 := Lib.hid hat5; clear hown5 hgrow5 hat5 hne))
      all_goals
        go_wp2_with fail
        refine ⟨⟨i + 1, _, updV vw' i (.slice A1 ws.length a1), updV vl' i (.slice A2 ls.length a2), by omega, by go_num, rfl, ?_, ?_⟩, by simp [intOf]; omega⟩
        · refine HO.out.snoc hBs HBB.out (by rw [HK.out]; exact HO1.out) (by rw [HK.out]; exact HO2.out) HAP.out HG5.out ?_ (by rw [HK.out]; exact HO5.out)
          rcases HA5.out with h | h
          · exact .inl h.symm
          · exact .inr (by rw [h]; rfl)
        · exact below_grown ((HB.out.trans (HBB.out.mono hBs)).alloc (by have := HBB.out.size; omega) _) (by simp; have := HBB.out.size; omega) HG5.out (fun k hk => (HO.out.row.lt k hk).1)
    · obtain rfl : i = n := by omega
      clear hO hB
      go_wp2_with fail
      go_ret
      exact ⟨_, vw', vl', rfl, HO.out, HB.out⟩
end Go.Proofs.YthgbcgphkddmgaaGreat.Li
namespace Go.Proofs.YthgbcgphkddmgaaGreat.Li
open Go.RowKit
set_option linter.unusedVariables false
set_option maxHeartbeats 400000 in
theorem ixRow_any (I : World → Prop) (A : Option Addr) (b off n c f : Nat) (cp : Array Value) (g0 g1 g2 : Nat → Value) (p : Nat → Bool) (w : World) (hn : n ≤ 9223372036854775807)
    (hA : 0 < n → A = some ⟨b, off, none⟩) (he : Enters Tryz.prog f)
    (hc : ∀ W, I W → ∀ k, k < n → W.cell? ⟨b, off + k * 3, none⟩ = some (g0 k) ∧ W.cell? ⟨b, off + k * 3 + 1, none⟩ = some (g1 k) ∧ W.cell? ⟨b, off + k * 3 + 2, none⟩ = some (g2 k))
    (hf : ∀ W, I W → ∀ k, k < n → Calls Tryz.prog f (#[.agg #[g0 k, g1 k, g2 k]] ++ cp) W fun e W' => e = .returned (.bool (p k)) ∧ I W') (hw : I w) :
    Calls Tryz.prog 175 #[.slice A n c, .func (.func f) #[] cp] w fun e w' => e = .returned (.int .i64 (ixOf p n)) ∧ I w' := by
  have HC := Lib.hid hc
  have HF := Lib.hid hf
  have HA := Lib.hid hA
  have HE := Lib.hid he
  clear hc hf hA he
  go_enter Tryz.func175, Tryz.ntmps175
  go_wp2_with fail
  go_loopw [5, 4, 8] (fun _ _ i wr => ∃ k : Nat, k ≤ n ∧ i = .int .i64 k ∧ (∀ j, j < k → p j = false) ∧ I wr) (fun _ _ i _ => n - (intOf i).toNat)
  case atStart => exact ⟨0, Nat.zero_le _, rfl, fun j hj => by omega, hw⟩
  case round =>
    obtain ⟨k, hk, rfl, hlow, hI⟩ := hrel
    have HL := Lib.hid hlow
    clear hlow
    by_cases hlt : k < n
    · obtain rfl := HA.out (by omega)
      obtain ⟨hc0, hc1, hc2⟩ := HC.out wr hI k hlt
      have hen := HE.out (#[.agg #[g0 k, g1 k, g2 k]] ++ cp) wr
      go_wp2_with fail
      refine (HF.out wr hI k hlt).mono ?_
      rintro e W' ⟨rfl, hI'⟩
      by_cases hp : p k = true
      · clear hc0 hc1 hc2 hen
        go_wp2_with fail
        go_ret
        exact ⟨ret_int (ixOf_found hlt hp HL.out).symm, hI'⟩
      · have hp' : p k = false := by simpa using hp
        clear hc0 hc1 hc2 hen hp
        go_wp2_with fail
        go_roundw
        case rel =>
          refine ⟨k + 1, by omega, by go_num, fun j hj => ?_, hI'⟩
          by_cases e : j = k
          · rw [e]; exact hp'
          · exact HL.out j (by omega)
        case measure => simp [intOf]; omega
    · go_wp2_with fail
      go_ret
      exact ⟨ret_int (ixOf_none fun j hj => HL.out j (by omega)).symm, hI⟩

theorem ixRow_rd (A : Option Addr) (n c f : Nat) (cp : Array Value) (g0 g1 g2 : Nat → Value) (p : Nat → Bool) (w : World) (hn : n ≤ 9223372036854775807)
    (hR : Rd w 3 (fun k => [g0 k, g1 k, g2 k]) A n) (he : Enters Tryz.prog f)
    (hf : ∀ W, Below w.heap.size w W → ∀ k, k < n → Calls Tryz.prog f (#[.agg #[g0 k, g1 k, g2 k]] ++ cp) W fun e W' => e = .returned (.bool (p k)) ∧ Below w.heap.size w W') :
    Calls Tryz.prog 175 #[.slice A n c, .func (.func f) #[] cp] w fun e w' => e = .returned (.int .i64 (ixOf p n)) ∧ Below w.heap.size w w' := by
  by_cases h0 : 0 < n
  · obtain ⟨b, off, hA, hb, hc⟩ := hR h0
    refine ixRow_any (fun W => Below w.heap.size w W) A b off n c f cp g0 g1 g2 p w hn (fun _ => hA) he (fun W hW k hk => ?_) hf (Below.refl _ _)
    have hcell : ∀ o, W.cell? ⟨b, o, none⟩ = w.cell? ⟨b, o, none⟩ := fun o => hW.cell (p := ⟨b, o, none⟩) hb
    simp only [hcell]
    exact ⟨by simpa using hc k hk 0 _ rfl, by simpa using hc k hk 1 _ rfl, by simpa using hc k hk 2 _ rfl⟩
  · exact ixRow_any (fun W => Below w.heap.size w W) A 0 0 n c f cp g0 g1 g2 p w hn (fun h => absurd h h0) he (fun W hW k hk => by omega) hf (Below.refl _ _)

def refB (R : Nat → LR) (ref : Int) : Nat → Bool := fun k => (R k).ref == ref
/-- a closure that compares a row's reference with a captured one -/
def EqRow (fn : Nat) : Prop := ∀ (a : Int) (A B : Option Addr) (n m c d : Nat) (ref : Int) (b : Nat) (w : World), b < w.heap.size → w.cell? ⟨b, 0, none⟩ = some (.int .i64 ref) →
  Calls Tryz.prog fn #[.agg #[.int .i64 a, .slice A n c, .slice B m d], .pointer (some ⟨b, 0, none⟩)] w fun e w' => e = .returned (.bool (a == ref)) ∧ Below w.heap.size w w'
theorem ix_row (fn : Nat) (hen : Enters Tryz.prog fn) (hf : EqRow fn) (A : Option Addr) (n c : Nat) (R : Nat → LR) (vw vl : Nat → Value) (ref : Int) (b : Nat) (w : World) (hn : n ≤ 9223372036854775807) (hR : RdL w A n R vw vl) (hb : b < w.heap.size) (hc : w.cell? ⟨b, 0, none⟩ = some (.int .i64 ref)) :
    Calls Tryz.prog 175 #[.slice A n c, .func (.func fn) #[] #[.pointer (some ⟨b, 0, none⟩)]] w fun e w' => e = .returned (.int .i64 (ixOf (refB R ref) n)) ∧ Below w.heap.size w w' :=
  ixRow_rd A n c fn #[.pointer (some ⟨b, 0, none⟩)] (fun k => .int .i64 (R k).ref) vw vl (refB R ref) w hn hR.row hen
    fun W hW k hk => by
      obtain ⟨⟨wA, wc, hvw, _⟩, ⟨lA, lc, hvl, _⟩⟩ := hR.each k hk
      rw [hvw, hvl]
      exact (hf (R k).ref wA lA _ _ wc lc ref b W (by have := hW.size; omega) ((hW.cell (p := ⟨_, _, none⟩) hb).trans hc)).mono fun e W' ⟨he, hb'⟩ => ⟨he, hW.trans (hb'.mono hW.size)⟩
theorem begin1_cl : EqRow 178 := fun a A B n m c d ref b w hb hc => by
  go_enter Tryz.func178, Tryz.ntmps178
  go_wp2_with fail
  go_ret
  exact ⟨rfl, (Below.refl _ _).alloc (Nat.le_refl _) _⟩
theorem begin1_enters : Enters Tryz.prog 178 := fun _ _ => by kernel_rfl
def OkIx (R : Nat → LR) (n : Nat) (ref : Int) (i : Nat) : Prop := OkL R n ∧ i < n ∧ (R i).ref = ref
theorem OkL.mono {R : Nat → LR} {n : Nat} (h : OkL R n) : ∀ i j, i < j → j < n → (R i).ref < (R j).ref := by
  intro i j
  induction j with
  | zero => intro h; omega
  | succ j ih =>
    intro hij hj
    have h1 := (h.2 (j + 1) hj).2.2.2.1 (by omega)
    rw [Nat.add_sub_cancel] at h1
    by_cases e : i = j
    · subst e; exact h1
    · have := ih (by omega) (by omega)
      omega
theorem OkIx.uniq {R : Nat → LR} {n i j : Nat} {ref : Int} (h : OkIx R n ref i) (h' : OkIx R n ref j) : i = j := by
  rcases Nat.lt_trichotomy i j with hlt | e | hlt
  · have := h.1.mono i j hlt h'.2.1
    rw [h.2.2, h'.2.2] at this
    omega
  · exact e
  · have := h.1.mono j i hlt h.2.1
    rw [h.2.2, h'.2.2] at this
    omega
theorem OkIx.ix {R : Nat → LR} {n i : Nat} {ref : Int} (h : OkIx R n ref i) : ixOf (refB R ref) n = i := by
  refine ixOf_found h.2.1 (by simp [refB, h.2.2]) (fun j hj => ?_)
  have := h.1.mono j i hj h.2.1
  rw [h.2.2] at this
  simp [refB]
  omega
theorem ix_none {R : Nat → LR} {n : Nat} {ref : Int} (h : OkL R n) (hno : ¬ ∃ i, OkIx R n ref i) : ixOf (refB R ref) n = -1 := by
  refine ixOf_none (fun j hj => ?_)
  rcases hp : refB R ref j with _ | _
  · rfl
  · exact absurd ⟨j, h, hj, by simpa [refB] using hp⟩ hno
def BeginBad (P : Prop) (w : World) (e : Ending) (w' : World) : Prop := ∃ x : Int, x ≠ 0 ∧ (P → x = 4) ∧ e = .returned (.tuple #[.slice none 0 0, .int .i64 0, .int .i64 x]) ∧ Below w.heap.size w w'
def BeginOk (R : Nat → LR) (n i : Nat) (w : World) (e : Ending) (w' : World) : Prop := ∃ A c vw vl, e = .returned (.tuple #[.slice A n c, .int .i64 i, .int .i64 0]) ∧ OwnL w' w.heap.size (.slice A n c) n R vw vl ∧ Below w.heap.size w w'
set_option maxHeartbeats 2000000 in
theorem begin_bad (A : Option Addr) (n c : Nat) (R : Nat → LR) (vw vl : Nat → Value) (ref : Int) (w : World) (hn : n ≤ c) (hc : c ≤ 9223372036854775807) (hR : RdL w A n R vw vl) (hno : ¬ ∃ i, OkIx R n ref i) :
    Calls Tryz.prog 141 #[.slice A n c, .int .i64 ref] w (BeginBad (OkL R n) w) := by
  have HR := Lib.hid hR
  have HNO := Lib.hid hno
  clear hR hno
  go_enter Tryz.func141, Tryz.ntmps141
  go_wp2_with fail
  refine (check_any A n c R vw vl _ hn hc (HR.out.below ((Below.refl _ _).alloc (Nat.le_refl _) _))).mono ?_
  rintro e w1 ⟨x, rfl, hx, hb⟩
  have HB1 := Lib.hid (((Below.refl w.heap.size w).alloc (Nat.le_refl _) (.cells #[.int .i64 ref] 3)).trans (hb.mono (by simp)))
  have c0 : w1.cell? ⟨w.heap.size, 0, none⟩ = some (.int .i64 ref) := (hb.cell (p := ⟨_, _, none⟩) (by simp)).trans (by simp [go_sem])
  have hz : w.heap.size < w1.heap.size := by have := hb.size; simp at this; omega
  have HX := Lib.hid hx
  clear hb hx
  by_cases hx0 : x = 0
  · subst hx0
    have HK := Lib.hid (HX.out.1 rfl)
    have HI := Lib.hid (ix_none HK.out HNO.out)
    go_wp2_with fail
    refine (ix_row _ begin1_enters begin1_cl A n c R vw vl ref w.heap.size _ (by omega) (HR.out.below HB1.out) hz c0).mono ?_
    rintro e w2 ⟨rfl, hb2⟩
    rw [HI.out]
    have HB2 := Lib.hid (HB1.out.trans (hb2.mono HB1.out.size))
    clear hb2 c0
    go_wp2_with fail
    go_ret3
    exact ⟨4, by omega, fun _ => rfl, rfl, HB2.out⟩
  · have e0 : (x != 0) = true := by simpa using hx0
    have HX0 := Lib.hid hx0
    clear hx0
    go_wp2_with fail
    go_ret3
    exact ⟨x, HX0.out, fun h => absurd (HX.out.2 h) HX0.out, rfl, HB1.out⟩
set_option maxHeartbeats 2000000 in
theorem begin_ok (A : Option Addr) (n c : Nat) (R : Nat → LR) (vw vl : Nat → Value) (ref : Int) (i : Nat) (w : World) (hn : n ≤ c) (hc : c ≤ 9223372036854775807) (hR : RdL w A n R vw vl) (hi : OkIx R n ref i) :
    Calls Tryz.prog 141 #[.slice A n c, .int .i64 ref] w (BeginOk R n i w) := by
  have HR := Lib.hid hR
  have HOK := Lib.hid hi
  have h100 := hi.1.1
  clear hR hi
  go_enter Tryz.func141, Tryz.ntmps141
  go_wp2_with fail
  refine (check_any A n c R vw vl _ hn hc (HR.out.below ((Below.refl _ _).alloc (Nat.le_refl _) _))).mono ?_
  rintro e w1 ⟨x, rfl, hx, hb⟩
  have HB1 := Lib.hid (((Below.refl w.heap.size w).alloc (Nat.le_refl _) (.cells #[.int .i64 ref] 3)).trans (hb.mono (by simp)))
  have c0 : w1.cell? ⟨w.heap.size, 0, none⟩ = some (.int .i64 ref) := (hb.cell (p := ⟨_, _, none⟩) (by simp)).trans (by simp [go_sem])
  have hz : w.heap.size < w1.heap.size := by have := hb.size; simp at this; omega
  obtain rfl : x = 0 := hx.2 HOK.out.1
  have HI := Lib.hid HOK.out.ix
  clear hb hx
  go_wp2_with fail
  refine (ix_row _ begin1_enters begin1_cl A n c R vw vl ref w.heap.size _ (by omega) (HR.out.below HB1.out) hz c0).mono ?_
  rintro e w2 ⟨rfl, hb2⟩
  rw [HI.out]
  have HB2 := Lib.hid (HB1.out.trans (hb2.mono HB1.out.size))
  have i0 : ¬ ((i : Int) < 0) := by omega
  clear hb2 c0
  go_wp2_with fail
  refine (copy_any A n c R vw vl _ hn hc h100 (HR.out.below HB2.out) (fun k hk => ⟨(HOK.out.1.2 k hk).2.1, (HOK.out.1.2 k hk).2.2.1⟩)).mono ?_
  rintro e w3 ⟨v, vw', vl', rfl, hO, hb3⟩
  obtain ⟨A', c', rfl, _, _, _⟩ := own_any hO.row
  have HO := Lib.hid (hO.mono HB2.out.size)
  have HB3 := Lib.hid (HB2.out.trans (hb3.mono HB2.out.size))
  clear hO hb3
  go_wp2_with fail
  go_ret3
  exact ⟨A', c', vw', vl', rfl, HO.out, HB3.out⟩
end Go.Proofs.YthgbcgphkddmgaaGreat.Li
namespace Go.Proofs.YthgbcgphkddmgaaGreat.Li
open Go.RowKit
set_option linter.unusedVariables false
def updR (R : Nat → LR) (i : Nat) (s : Bool) (l : List Int) : Nat → LR := fun k => if k = i then (if s then ⟨(R k).ref, l, (R k).ls⟩ else ⟨(R k).ref, (R k).ws, l⟩) else R k
def updW (vw : Nat → Value) (i : Nat) (s : Bool) (x : Value) : Nat → Value := if s then updV vw i x else vw
def updX (vl : Nat → Value) (i : Nat) (s : Bool) (x : Value) : Nat → Value := if s then vl else updV vl i x
theorem iv_upd (vw vl : Nat → Value) (i : Nat) (s : Bool) (x : Value) (j : Nat) (t : Bool) : iv (updW vw i s x) (updX vl i s x) j t = if j = i ∧ t = s then x else iv vw vl j t := by
  cases s <;> cases t <;> by_cases e : j = i <;> simp [iv, updW, updX, updV, e]
theorem il_upd (R : Nat → LR) (i : Nat) (s : Bool) (l : List Int) (j : Nat) (t : Bool) : il (updR R i s l) j t = if j = i ∧ t = s then l else il R j t := by
  cases s <;> cases t <;> by_cases e : j = i <;> simp [il, updR, e]
theorem updR_ref (R : Nat → LR) (i : Nat) (s : Bool) (l : List Int) (k : Nat) : (updR R i s l k).ref = (R k).ref := by
  unfold updR; split
  · split <;> rfl
  · rfl
theorem rwC_upd (R : Nat → LR) (vw vl : Nat → Value) (i : Nat) (s : Bool) (l : List Int) (x : Value) (k : Nat) : rwC (updR R i s l) (updW vw i s x) (updX vl i s x) k = if k = i then (rwC R vw vl i).set (if s then 1 else 2) x else rwC R vw vl k := by
  unfold rwC
  rw [updR_ref]
  by_cases e : k = i
  · subst e
    cases s <;> simp [updW, updX, updV]
  · cases s <;> simp [updW, updX, updV, e]
theorem OwnL.put {w w2 : World} {base g cap n i : Nat} {R : Nat → LR} {vw vl : Nat → Value} {v' : Value} {l' : List Int} {row : Option Nat} (s : Bool) (o : Nat) (ho : o = i * 3 + if s then 1 else 2) (h : OwnL w base (.slice (some ⟨g, 0, none⟩) n cap) n R vw vl) (hi : i < n) (hg : w.grownBy w2 row)
    (hrow : ∀ k, row = some k → (iv vw vl i s).ownBlock = some k ∨ w.heap.size ≤ k) (hO : OwnI w2 base v' l') (hat : ∀ k, v'.ownBlock = some k → (iv vw vl i s).ownBlock = some k ∨ w.heap.size ≤ k) :
    OwnL (w2.setCell ⟨g, o, none⟩ v') base (.slice (some ⟨g, 0, none⟩) n cap) n (updR R i s l') (updW vw i s v') (updX vl i s v') := by
  subst ho
  have hgl := (own_lt h.row).2
  have hlt : ∀ j, j < n → ∀ t k, (iv vw vl j t).ownBlock = some k → k < w.heap.size := fun j hj t k hk => ((h.each j hj t).blk k hk).2
  have hneg : ∀ j, j < n → ∀ t k, (iv vw vl j t).ownBlock = some k → k ≠ g := fun j hj t k hk e => h.outer j hj t k hk (by rw [e]; rfl)
  have hv'g : ∀ k, v'.ownBlock = some k → k ≠ g := fun k hk e => by
    rcases hat k hk with h1 | h1
    · exact hneg i hi s k h1 e
    · omega
  have hrow2 : w2.ownsRow base 242 3 (.slice (some ⟨g, 0, none⟩) n cap) n (flatC (rwC R vw vl) n) := own_grown h.row hg (fun k hk e => by
    have hk' : g = k := Option.some.inj hk
    rcases hrow k e with h1 | h1
    · exact hneg i hi s k h1 hk'.symm
    · omega)
  have hset := own_setC hrow2 (rwC_len _ _ _) (k := i) (j := if s then 1 else 2) (by split <;> omega) v' (G' := rwC (updR R i s l') (updW vw i s v') (updX vl i s v')) (fun k _ => rwC_upd R vw vl i s l' v' k)
  refine ⟨hset.1, fun j hj t => ?_, fun a b ha hb t u hab k hk => ?_, fun j hj t k hk => ?_⟩
  · rw [iv_upd, il_upd]
    by_cases e : j = i ∧ t = s
    · rw [if_pos e, if_pos e]
      exact hO.grown hset.2 (fun k hk e => hv'g k hk (by injection e with e; exact e.symm))
    · rw [if_neg e, if_neg e]
      refine ((h.each j hj t).grown hg (fun k hk e2 => ?_)).grown hset.2 (fun k hk e2 => hneg j hj t k hk (by injection e2 with e2; exact e2.symm))
      rcases hrow k e2 with h1 | h1
      · exact h.apart j i hj hi t s e k hk h1
      · have := hlt j hj t k hk; omega
  · rw [iv_upd] at hk ⊢
    by_cases e : a = i ∧ t = s
    · rw [if_pos e] at hk
      have e' : ¬ (b = i ∧ u = s) := fun h2 => hab ⟨e.1.trans h2.1.symm, e.2.trans h2.2.symm⟩
      rw [if_neg e']
      intro e2
      rcases hat k hk with h1 | h1
      · exact h.apart i b hi hb s u (fun h2 => e' ⟨h2.1.symm, h2.2.symm⟩) k h1 e2
      · have := hlt b hb u k e2; omega
    · rw [if_neg e] at hk
      by_cases e3 : b = i ∧ u = s
      · rw [if_pos e3]
        intro e2
        rcases hat k e2 with h1 | h1
        · exact h.apart a i ha hi t s e k hk h1
        · have := hlt a ha t k hk; omega
      · rw [if_neg e3]
        exact h.apart a b ha hb t u hab k hk
  · intro e2
    have hk' : g = k := Option.some.inj e2
    rw [iv_upd] at hk
    by_cases e : j = i ∧ t = s
    · rw [if_pos e] at hk
      exact hv'g k hk hk'.symm
    · rw [if_neg e] at hk
      exact hneg j hj t k hk hk'.symm
def RowsBad (w : World) (e : Ending) (w' : World) : Prop := ∃ x : Int, x ≠ 0 ∧ e = .returned (.tuple #[.slice none 0 0, .int .i64 x]) ∧ Below w.heap.size w w'
def RowsOk (R : Nat → LR) (n : Nat) (w : World) (e : Ending) (w' : World) : Prop := ∃ A c vw vl, e = .returned (.tuple #[.slice A n c, .int .i64 0]) ∧ OwnL w' w.heap.size (.slice A n c) n R vw vl ∧ Below w.heap.size w w'
def WatchOk (R : Nat → LR) (n : Nat) (ref : Int) (i : Nat) : Prop := OkIx R n ref i ∧ (R i).ws.length ≠ 100
set_option maxRecDepth 100000 in
set_option maxHeartbeats 4000000 in
theorem watch_ok (A : Option Addr) (n c : Nat) (R : Nat → LR) (vw vl : Nat → Value) (x ref : Int) (i : Nat) (w : World) (hn : n ≤ c) (hc : c ≤ 9223372036854775807) (hR : RdL w A n R vw vl) (hi : WatchOk R n ref i) :
    Calls Tryz.prog 188 #[.slice A n c, .int .i64 x, .int .i64 ref] w (RowsOk (updR R i true ((R i).ws ++ [x])) n w) := by
  have HOK := Lib.hid hi
  have hin := hi.1.2.1
  have h100 := (hi.1.1.2 i hi.1.2.1).2.1
  have hl : ((((R i).ws.length : Nat) : Int) == 100) = false := by have := hi.2; simp; omega
  have H := Lib.hid (begin_ok A n c R vw vl ref i w hn hc hR hi.1)
  have hnm := hi.1.1.1
  clear hR hi
  go_enter Tryz.func188, Tryz.ntmps188
  go_wp2_with fail
  refine H.out.mono ?_
  rintro e w1 ⟨A1, c1, vw1, vl1, rfl, hO, hb⟩
  obtain ⟨g, cap, hv, hbase, hglt, hnc, hcm⟩ := own_form hO.row (by omega)
  injection hv with e1 _ e3
  subst e1 e3
  obtain ⟨wA, wc, hvw, q1, q2, _⟩ := own_any (hO.each i hin true)
  have hvw' : vw1 i = .slice wA (R i).ws.length wc := hvw
  have c0 : w1.cell? ⟨g, i * 3 + 1, none⟩ = some (.slice wA (R i).ws.length wc) := by
    rw [own_cellC hO.row (rwC_len _ _ _) hin (j := 1) (by omega)]
    simp [rwC, hvw']
  have cf : ∀ o, w1.frozen? ⟨g, o, none⟩ = false := fun o => hO.row.frozenAt o
  have HOI := Lib.hid (show OwnI w1 w.heap.size (.slice wA (R i).ws.length wc) (R i).ws by rw [← hvw']; exact hO.each i hin true)
  have HV := Lib.hid (show iv vw1 vl1 i true = .slice wA (R i).ws.length wc from hvw')
  have HO := Lib.hid hO
  have HB := Lib.hid hb
  have hz := hb.size
  have j0 : (0 : Int) ≤ (i : Int) := by omega
  have j1 : (i : Int) < (n : Int) := by omega
  have HNEG := Lib.hid (show ∀ k, (Value.slice wA (R i).ws.length wc).ownBlock = some k → g = k → False from fun k hk e => hO.outer i hin true k (by rw [HV.out]; exact hk) (by rw [← e]; rfl))
  clear hO hb hvw hvw'
  have HWL := Lib.hid (show (R i).ws.length ≤ 1000000 by omega)
  go_wp2_with (at_builtin; go_loud (refine wpList_append_int rfl _ _ rfl w.heap.size (.slice wA (R i).ws.length wc) (R i).ws rfl HOI.out w1.heap.size rfl x rfl HWL.out (by omega) ?_; intro v4 w4 hown4 hgrow4 hat4; obtain ⟨A4, c4, rfl, hn4, hc4, _⟩ := own_any hown4; have d0 := (grown_cell hgrow4 hglt (fun e => HNEG.out _ e.symm rfl)).trans c0; have df : ∀ o, w4.frozen? ⟨g, o, none⟩ = false := (fun o => (grown_frozen hgrow4 hglt (fun e => HNEG.out _ e.symm rfl)).trans (cf o)); clear c0 cf; have HO4 := Lib.hid hown4; have HG4 := Lib.hid hgrow4; have HA4 := Lib.hid hat4; clear hown4 hgrow4 hat4))
  go_ret2
  refine ⟨some ⟨g, 0, none⟩, c1, updW vw1 i true (.slice A4 ((R i).ws ++ [x]).length c4), updX vl1 i true (.slice A4 ((R i).ws ++ [x]).length c4), rfl, ?_, ?_⟩
  · rw [show (R i).ws.length + 1 = ((R i).ws ++ [x]).length by simp]
    refine OwnL.put true _ (by simp) HO.out hin HG4.out (fun k hk => .inl (by rw [HV.out]; exact hk)) HO4.out (fun k hk => ?_)
    rcases HA4.out with h | h
    · exact .inl (by rw [HV.out, ← h]; exact hk)
    · have h' : some k = some (w1.heap.size + 1) := hk.symm.trans h
      injection h' with h'
      exact .inr (by omega)
  · exact below_set (below_grown HB.out (by omega) HG4.out (fun k hk => (HOI.out.blk k hk).1)) hbase
theorem watch_bad (A : Option Addr) (n c : Nat) (R : Nat → LR) (vw vl : Nat → Value) (x ref : Int) (w : World) (hn : n ≤ c) (hc : c ≤ 9223372036854775807) (hR : RdL w A n R vw vl) (hno : ¬ ∃ i, WatchOk R n ref i) :
    Calls Tryz.prog 188 #[.slice A n c, .int .i64 x, .int .i64 ref] w (RowsBad w) := by
  by_cases hi : ∃ i, OkIx R n ref i
  · obtain ⟨i, hi⟩ := hi
    have h100 : (R i).ws.length = 100 := Decidable.byContradiction fun h => hno ⟨i, hi, h⟩
    have hl : ((((R i).ws.length : Nat) : Int) == 100) = true := by simp; omega
    have hin := hi.2.1
    have H := Lib.hid (begin_ok A n c R vw vl ref i w hn hc hR hi)
    clear hR hi hno
    have H100 := Lib.hid h100
    clear h100
    go_enter Tryz.func188, Tryz.ntmps188
    go_wp2_with fail
    refine H.out.mono ?_
    rintro e w1 ⟨A1, c1, vw1, vl1, rfl, hO, hb⟩
    obtain ⟨g, cap, hv, hbase, hglt, hnc, hcm⟩ := own_form hO.row (by omega)
    injection hv with e1 _ e3
    subst e1 e3
    obtain ⟨wA, wc, hvw, q1, q2, _⟩ := own_any (hO.each i hin true)
    have hvw' : vw1 i = .slice wA (R i).ws.length wc := hvw
    have c0 : w1.cell? ⟨g, i * 3 + 1, none⟩ = some (.slice wA (R i).ws.length wc) := by
      rw [own_cellC hO.row (rwC_len _ _ _) hin (j := 1) (by omega)]
      simp [rwC, hvw']
    have HB := Lib.hid hb
    have j0 : (0 : Int) ≤ (i : Int) := by omega
    have j1 : (i : Int) < (n : Int) := by omega
    clear hO hb hvw hvw'
    go_wp2_with fail
    go_ret2
    exact ⟨6, by omega, rfl, HB.out⟩
  · have H := Lib.hid (begin_bad A n c R vw vl ref w hn hc hR hi)
    clear hR hi hno
    go_enter Tryz.func188, Tryz.ntmps188
    go_wp2_with fail
    refine H.out.mono ?_
    rintro e w1 ⟨y, hy, _, rfl, hb⟩
    have HY := Lib.hid hy
    have HB := Lib.hid hb
    have e0 : (y != 0) = true := by simpa using hy
    clear hy hb
    go_wp2_with fail
    go_ret2
    exact ⟨y, HY.out, rfl, HB.out⟩
def LinkOk (R : Nat → LR) (n : Nat) (ref x : Int) (i : Nat) : Prop := OkIx R n ref i ∧ (x ∈ (R i).ls ∨ (R i).ls.length ≠ 100)
def linkR (R : Nat → LR) (i : Nat) (x : Int) : Nat → LR := if x ∈ (R i).ls then R else updR R i false ((R i).ls ++ [x])
set_option maxRecDepth 100000 in
set_option maxHeartbeats 4000000 in
theorem link_add (A : Option Addr) (n c : Nat) (R : Nat → LR) (vw vl : Nat → Value) (ref x : Int) (i : Nat) (w : World) (hn : n ≤ c) (hc : c ≤ 9223372036854775807) (hR : RdL w A n R vw vl) (hi : OkIx R n ref i) (hx : x ∉ (R i).ls) (hlen : (R i).ls.length ≠ 100) :
    Calls Tryz.prog 119 #[.slice A n c, .int .i64 ref, .int .i64 x] w (RowsOk (updR R i false ((R i).ls ++ [x])) n w) := by
  have HOK := Lib.hid hi
  have hin := hi.2.1
  have h100 := (hi.1.2 i hi.2.1).2.2.1
  have hl : ((((R i).ls.length : Nat) : Int) == 100) = false := by simp; omega
  have H := Lib.hid (begin_ok A n c R vw vl ref i w hn hc hR hi)
  have hnm := hi.1.1
  have HX := Lib.hid hx
  clear hR hi hx hlen
  go_enter Tryz.func119, Tryz.ntmps119
  go_wp2_with fail
  refine H.out.mono ?_
  rintro e w1 ⟨A1, c1, vw1, vl1, rfl, hO, hb⟩
  obtain ⟨g, cap, hv, hbase, hglt, hnc, hcm⟩ := own_form hO.row (by omega)
  injection hv with e1 _ e3
  subst e1 e3
  obtain ⟨wA, wc, hvw, q1, q2, _⟩ := own_any (hO.each i hin false)
  have hvw' : vl1 i = .slice wA (R i).ls.length wc := hvw
  have c0 : w1.cell? ⟨g, i * 3 + 2, none⟩ = some (.slice wA (R i).ls.length wc) := by
    rw [own_cellC hO.row (rwC_len _ _ _) hin (j := 2) (by omega)]
    simp [rwC, hvw']
  have cf : ∀ o, w1.frozen? ⟨g, o, none⟩ = false := fun o => hO.row.frozenAt o
  have HOI := Lib.hid (show OwnI w1 w.heap.size (.slice wA (R i).ls.length wc) (R i).ls by rw [← hvw']; exact hO.each i hin false)
  have HV := Lib.hid (show iv vw1 vl1 i false = .slice wA (R i).ls.length wc from hvw')
  have HO := Lib.hid hO
  have HB := Lib.hid hb
  have hz := hb.size
  have j0 : (0 : Int) ≤ (i : Int) := by omega
  have j1 : (i : Int) < (n : Int) := by omega
  have HNEG := Lib.hid (show ∀ k, (Value.slice wA (R i).ls.length wc).ownBlock = some k → g = k → False from fun k hk e => hO.outer i hin false k (by rw [HV.out]; exact hk) (by rw [← e]; rfl))
  clear hO hb hvw hvw'
  have HWL := Lib.hid (show (R i).ls.length ≤ 1000000 by omega)
  go_wp2_with fail
  refine (containsI_any wA (R i).ls.length wc (lst (R i).ls) x _ (by omega) HOI.out.rd).mono ?_
  rintro e w2 ⟨rfl, rfl⟩
  rw [any_lst, show decide (x ∈ (R i).ls) = false from decide_eq_false HX.out]
  go_wp2_with (at_builtin; go_loud (refine wpList_append_int rfl _ _ rfl w.heap.size (.slice wA (R i).ls.length wc) (R i).ls rfl HOI.out w1.heap.size rfl x rfl HWL.out (by omega) ?_; intro v4 w4 hown4 hgrow4 hat4; obtain ⟨A4, c4, rfl, hn4, hc4, _⟩ := own_any hown4; have d0 := (grown_cell hgrow4 hglt (fun e => HNEG.out _ e.symm rfl)).trans c0; have df : ∀ o, w4.frozen? ⟨g, o, none⟩ = false := (fun o => (grown_frozen hgrow4 hglt (fun e => HNEG.out _ e.symm rfl)).trans (cf o)); clear c0 cf; have HO4 := Lib.hid hown4; have HG4 := Lib.hid hgrow4; have HA4 := Lib.hid hat4; clear hown4 hgrow4 hat4))
  go_ret2
  refine ⟨some ⟨g, 0, none⟩, c1, updW vw1 i false (.slice A4 ((R i).ls ++ [x]).length c4), updX vl1 i false (.slice A4 ((R i).ls ++ [x]).length c4), rfl, ?_, ?_⟩
  · rw [show (R i).ls.length + 1 = ((R i).ls ++ [x]).length by simp]
    refine OwnL.put false _ (by simp) HO.out hin HG4.out (fun k hk => .inl (by rw [HV.out]; exact hk)) HO4.out (fun k hk => ?_)
    rcases HA4.out with h | h
    · exact .inl (by rw [HV.out, ← h]; exact hk)
    · have h' : some k = some (w1.heap.size + 1) := hk.symm.trans h
      injection h' with h'
      exact .inr (by omega)
  · exact below_set (below_grown HB.out (by omega) HG4.out (fun k hk => (HOI.out.blk k hk).1)) hbase
set_option maxRecDepth 100000 in
set_option maxHeartbeats 4000000 in
theorem link_has (A : Option Addr) (n c : Nat) (R : Nat → LR) (vw vl : Nat → Value) (ref x : Int) (i : Nat) (w : World) (hn : n ≤ c) (hc : c ≤ 9223372036854775807) (hR : RdL w A n R vw vl) (hi : OkIx R n ref i) (hx : x ∈ (R i).ls) :
    Calls Tryz.prog 119 #[.slice A n c, .int .i64 ref, .int .i64 x] w (RowsOk R n w) := by
  have hin := hi.2.1
  have hl100 := (hi.1.2 i hi.2.1).2.2.1
  have H := Lib.hid (begin_ok A n c R vw vl ref i w hn hc hR hi)
  have HX := Lib.hid hx
  clear hR hi hx
  go_enter Tryz.func119, Tryz.ntmps119
  go_wp2_with fail
  refine H.out.mono ?_
  rintro e w1 ⟨A1, c1, vw1, vl1, rfl, hO, hb⟩
  obtain ⟨g, cap, hv, hbase, hglt, hnc, hcm⟩ := own_form hO.row (by omega)
  injection hv with e1 _ e3
  subst e1 e3
  obtain ⟨wA, wc, hvw, q1, q2, _⟩ := own_any (hO.each i hin false)
  have hvw' : vl1 i = .slice wA (R i).ls.length wc := hvw
  have c0 : w1.cell? ⟨g, i * 3 + 2, none⟩ = some (.slice wA (R i).ls.length wc) := by
    rw [own_cellC hO.row (rwC_len _ _ _) hin (j := 2) (by omega)]
    simp [rwC, hvw']
  have HOI := Lib.hid (show OwnI w1 w.heap.size (.slice wA (R i).ls.length wc) (R i).ls by rw [← hvw']; exact hO.each i hin false)
  have HO := Lib.hid hO
  have HB := Lib.hid hb
  have j0 : (0 : Int) ≤ (i : Int) := by omega
  have j1 : (i : Int) < (n : Int) := by omega
  clear hO hb hvw hvw'
  go_wp2_with fail
  refine (containsI_any wA (R i).ls.length wc (lst (R i).ls) x _ (by omega) HOI.out.rd).mono ?_
  rintro e w2 ⟨rfl, rfl⟩
  rw [any_lst, show decide (x ∈ (R i).ls) = true from decide_eq_true HX.out]
  go_wp2_with fail
  go_ret2
  exact ⟨_, _, vw1, vl1, rfl, HO.out, HB.out⟩
set_option maxRecDepth 100000 in
set_option maxHeartbeats 4000000 in
theorem link_bad (A : Option Addr) (n c : Nat) (R : Nat → LR) (vw vl : Nat → Value) (ref x : Int) (w : World) (hn : n ≤ c) (hc : c ≤ 9223372036854775807) (hR : RdL w A n R vw vl) (hno : ¬ ∃ i, LinkOk R n ref x i) :
    Calls Tryz.prog 119 #[.slice A n c, .int .i64 ref, .int .i64 x] w (RowsBad w) := by
  by_cases hi : ∃ i, OkIx R n ref i
  · obtain ⟨i, hi⟩ := hi
    have hx : x ∉ (R i).ls := fun h => hno ⟨i, hi, .inl h⟩
    have h100 : (R i).ls.length = 100 := Decidable.byContradiction fun h => hno ⟨i, hi, .inr h⟩
    have hl : ((((R i).ls.length : Nat) : Int) == 100) = true := by simp; omega
    have hin := hi.2.1
    have hl100 := (hi.1.2 i hi.2.1).2.2.1
    have H := Lib.hid (begin_ok A n c R vw vl ref i w hn hc hR hi)
    have HX := Lib.hid hx
    clear hR hi hno hx
    have H100 := Lib.hid h100
    clear h100
    go_enter Tryz.func119, Tryz.ntmps119
    go_wp2_with fail
    refine H.out.mono ?_
    rintro e w1 ⟨A1, c1, vw1, vl1, rfl, hO, hb⟩
    obtain ⟨g, cap, hv, hbase, hglt, hnc, hcm⟩ := own_form hO.row (by omega)
    injection hv with e1 _ e3
    subst e1 e3
    obtain ⟨wA, wc, hvw, q1, q2, _⟩ := own_any (hO.each i hin false)
    have hvw' : vl1 i = .slice wA (R i).ls.length wc := hvw
    have c0 : w1.cell? ⟨g, i * 3 + 2, none⟩ = some (.slice wA (R i).ls.length wc) := by
      rw [own_cellC hO.row (rwC_len _ _ _) hin (j := 2) (by omega)]
      simp [rwC, hvw']
    have HOI := Lib.hid (show OwnI w1 w.heap.size (.slice wA (R i).ls.length wc) (R i).ls by rw [← hvw']; exact hO.each i hin false)
    have HB := Lib.hid hb
    have j0 : (0 : Int) ≤ (i : Int) := by omega
    have j1 : (i : Int) < (n : Int) := by omega
    clear hO hb hvw hvw'
    go_wp2_with fail
    refine (containsI_any wA (R i).ls.length wc (lst (R i).ls) x _ (by omega) HOI.out.rd).mono ?_
    rintro e w2 ⟨rfl, rfl⟩
    rw [any_lst, show decide (x ∈ (R i).ls) = false from decide_eq_false HX.out]
    go_wp2_with fail
    go_ret2
    exact ⟨6, by omega, rfl, HB.out⟩
  · have H := Lib.hid (begin_bad A n c R vw vl ref w hn hc hR hi)
    clear hR hi hno
    go_enter Tryz.func119, Tryz.ntmps119
    go_wp2_with fail
    refine H.out.mono ?_
    rintro e w1 ⟨y, hy, _, rfl, hb⟩
    have HY := Lib.hid hy
    have HB := Lib.hid hb
    have e0 : (y != 0) = true := by simpa using hy
    clear hy hb
    go_wp2_with fail
    go_ret2
    exact ⟨y, HY.out, rfl, HB.out⟩
theorem link_ok (A : Option Addr) (n c : Nat) (R : Nat → LR) (vw vl : Nat → Value) (ref x : Int) (i : Nat) (w : World) (hn : n ≤ c) (hc : c ≤ 9223372036854775807) (hR : RdL w A n R vw vl) (hi : LinkOk R n ref x i) :
    Calls Tryz.prog 119 #[.slice A n c, .int .i64 ref, .int .i64 x] w (RowsOk (linkR R i x) n w) := by
  unfold linkR
  by_cases h : x ∈ (R i).ls
  · rw [if_pos h]
    exact link_has A n c R vw vl ref x i w hn hc hR hi.1 h
  · rw [if_neg h]
    exact link_add A n c R vw vl ref x i w hn hc hR hi.1 h (hi.2.resolve_left h)
end Go.Proofs.YthgbcgphkddmgaaGreat.Li
