/- heap.Objects. -/
import Derived.Test.YtkdbnkkdohkhjaaHeapAt
namespace Go.Proofs.Ytkdbnkkdohkhjaa
open Go.RowKit
set_option linter.unusedVariables false
theorem flatC_app (C : Nat → List Value) (n : Nat) (cs : List Value) : flatC C n ++ cs = flatC (updC C n cs) (n + 1) := by
  rw [flatC]
  congr 1
  · apply flatC_congr
    intro i hi
    have : i ≠ n := by omega
    simp [updC, this]
  · simp [updC]
theorem infoOb : (Try.prog.info? 33).map (fun i => (i.zero, i.size, i.bytes)) = some (some (.agg #[.int .i64 0, .int .i64 0, .int .i64 0, .string ⟨#[]⟩, .slice none 0 0]), 5, 64) := by kernel_rfl
/-- the cells of an object -/
def obC (a : Nat) (o : Ob) (pA : Option Addr) (pc : Nat) : List Value := [.int .i64 (a : Int), .int .i64 o.kind, .int .i64 o.num, .string o.text, .slice pA o.parts.length pc]
theorem obC_one (a : Nat) (o : Ob) (pA : Option Addr) (pc : Nat) : ∀ u ∈ obC a o pA pc, u.oneCell' = true := by
  intro u hu
  simp [obC] at hu
  rcases hu with rfl | rfl | rfl | rfl | rfl <;> rfl
/-- a row of the call's own that holds objects, each at its place, the parts in blocks of their own -/
structure ObRow (w : World) (base : Nat) (v : Value) (l : List Ob) (C : Nat → List Value) : Prop where
  row : w.ownsRow base 33 5 v l.length (flatC C l.length)
  len : ∀ i, (C i).length = 5
  each : ∀ i (o : Ob), l[i]? = some o → ∃ pA pc, C i = obC (flatO (l.take i)).length o pA pc ∧ OwnU w base (.slice pA o.parts.length pc) o.parts ∧ ∀ k, (Value.slice pA o.parts.length pc).ownBlock = some k → v.ownBlock ≠ some k
theorem ObRow.nil (w : World) (base : Nat) : ObRow w base (.slice none 0 0) [] (fun _ => List.replicate 5 undef) := ⟨World.ownsRow_nil _ _ _ _, fun _ => by simp, fun i o h => by simp at h⟩
theorem ObRow.below {w w' : World} {base : Nat} {v : Value} {l : List Ob} {C : Nat → List Value} (h : ObRow w base v l C) (hb : Below w.heap.size w w') : ObRow w' base v l C :=
  ⟨own_keep h.row hb, h.len, fun i o ho => by
    obtain ⟨pA, pc, h1, h2, h3⟩ := h.each i o ho
    exact ⟨pA, pc, h1, h2.below hb, h3⟩⟩
theorem ObRow.mono {w : World} {base base' : Nat} {v : Value} {l : List Ob} {C : Nat → List Value} (h : ObRow w base v l C) (hb : base' ≤ base) : ObRow w base' v l C :=
  ⟨own_mono h.row hb, h.len, fun i o ho => by
    obtain ⟨pA, pc, h1, h2, h3⟩ := h.each i o ho
    exact ⟨pA, pc, h1, h2.mono hb, h3⟩⟩
/-- one object more -/
theorem ObRow.snoc {w w' : World} {base : Nat} {v v' : Value} {l : List Ob} {C : Nat → List Value} (h : ObRow w base v l C) (o : Ob) (pA : Option Addr) (pc : Nat) (hg : w.grownBy w' v.ownBlock)
    (hO : w'.ownsRow base 33 5 v' (l.length + 1) (flatC C l.length ++ obC (flatO l).length o pA pc)) (hat : v'.ownBlock = v.ownBlock ∨ ∃ k, v'.ownBlock = some k ∧ w.heap.size ≤ k)
    (hp : OwnU w base (.slice pA o.parts.length pc) o.parts) (hne : ∀ k, (Value.slice pA o.parts.length pc).ownBlock = some k → v.ownBlock ≠ some k) : ObRow w' base v' (l ++ [o]) (updC C l.length (obC (flatO l).length o pA pc)) := by
  have hat' : ∀ k, k < w.heap.size → v.ownBlock ≠ some k → v'.ownBlock ≠ some k := fun k hk hn => by
    rcases hat with e | ⟨j, e, hj⟩
    · rw [e]; exact hn
    · rw [e]; intro h; injection h with h; omega
  refine ⟨?_, fun i => ?_, fun i x hx => ?_⟩
  · rw [flatC_app] at hO
    rw [List.length_append]
    exact hO
  · unfold updC; split
    · rfl
    · exact h.len i
  · by_cases e : i = l.length
    · subst e
      simp at hx
      subst hx
      refine ⟨pA, pc, by simp [updC], hp.grown hg (fun k hk => hne k hk), fun k hk => hat' k (hp.blk k hk).2 (hne k hk)⟩
    · have hi : i < l.length := by
        have := (List.getElem?_eq_some_iff.1 hx).1
        simp at this
        omega
      rw [List.getElem?_append_left hi] at hx
      obtain ⟨qA, qc, h1, h2, h3⟩ := h.each i x hx
      refine ⟨qA, qc, ?_, h2.grown hg (fun k hk => h3 k hk), fun k hk => hat' k (h2.blk k hk).2 (h3 k hk)⟩
      rw [List.take_append_of_le_length (by omega)]
      simp [updC, e, h1]
def ObjsPost (h : List Nat) (w : World) (e : Ending) (w' : World) : Prop :=
  (h.length ≤ 4000 ∧ ∃ l, ObsOf h l ∧ ∃ v C, e = .returned (.tuple #[v, .int .i64 0]) ∧ ObRow w' w.heap.size v l C ∧ Below w.heap.size w w') ∨
  (¬ (h.length ≤ 4000 ∧ ∃ l, ObsOf h l) ∧ ∃ x : Int, x ≠ 0 ∧ e = .returned (.tuple #[.slice none 0 0, .int .i64 x]) ∧ Below w.heap.size w w')
theorem len_flatO (l : List Ob) : l.length ≤ (flatO l).length := by
  induction l with
  | nil => exact Nat.le_refl _
  | cons o l ih =>
    have := wordsO_pos o
    rw [flatO_cons, List.length_cons, List.length_append]
    omega
theorem flatO_step {h : List Nat} {l : List Ob} {a : Nat} (hl : flatO l = h.take a) (H : ReadsOb h a) : flatO (l ++ [obR h a]) = h.take (a + (wordsO (obR h a)).length) := by
  rw [flatO_snoc, hl]
  have h1 := H.2.2.2.2
  rw [List.take_add]
  congr 1
set_option maxHeartbeats 4000000 in
set_option maxRecDepth 100000 in
theorem Objects_any (h : List Nat) (hA : Option Addr) (hc : Nat) (w : World) (hH : Su w (.slice hA h.length hc) h) (h64 : All64 h) (hlen : h.length ≤ 17592186044416) :
    Calls Try.prog 14 #[.slice hA h.length hc] w (ObjsPost h w) := by
  have HH := Lib.hid hH
  have H64 := Lib.hid h64
  clear hH h64
  by_cases h0 : 4000 < h.length
  · have d0 : decide ((4000 : Int) < (h.length : Int)) = true := by simp; omega
    go_enter Try.func14, Try.ntmps14
    go_wp2_with fail
    go_ret2
    exact .inr ⟨fun hh => by omega, 2, by omega, rfl, Below.refl _ _⟩
  have d0 : decide ((4000 : Int) < (h.length : Int)) = false := by simp; omega
  have hl4 : h.length ≤ 4000 := by omega
  clear h0
  obtain ⟨i0, hi, hz0, hz1, hz2⟩ := info_parts infoOb
  go_enter Try.func14, Try.ntmps14
  go_wp2_with fail
  go_loopw [4, 5, 6, 7, 8] (fun out at_ _ _ _ wr => ∃ (l : List Ob) (C : Nat → List Value) (a : Nat) (vo : Value), vo = out ∧ at_ = .int .i64 (a : Int) ∧ a ≤ h.length ∧ flatO l = h.take a ∧ (∀ o ∈ l, GoodOb o) ∧ ObRow wr w.heap.size vo l C ∧ Below w.heap.size w wr) (fun _ at_ _ _ _ _ => h.length - (intOf at_).toNat)
  case atStart => exact ⟨[], _, 0, _, rfl, rfl, Nat.zero_le _, by simp [flatO], fun o ho => by simp at ho, ObRow.nil _ _, Below.refl _ _⟩
  case round =>
    obtain ⟨l, C, a, vo, rfl, rfl, ha, hl, hg, hrow, hB⟩ := hrel
    have HL := Lib.hid hl
    have HGO := Lib.hid hg
    have HR := Lib.hid hrow
    have HB := Lib.hid hB
    have hla : l.length ≤ a := by
      have h1 := len_flatO l
      rw [hl, List.length_take] at h1
      omega
    obtain ⟨Ao, co, rfl, k1, k2, k3⟩ := own_any hrow.row
    clear hl hg hrow k3
    by_cases hlt : a < h.length
    · have d1 : decide ((a : Int) < (h.length : Int)) = true := by simp; omega
      have hsz := hB.size
      clear hB
      go_wp2_with fail
      refine (read_any h hA hc _ _ (HH.out.below HB.out) H64.out hlen).mono ?_
      rintro e w2 hR
      rcases hR with ⟨b, hab, hok, pA, pc, rfl, hO, hb⟩ | ⟨hno, x, hx, rfl, hb, _⟩
      · obtain rfl : a = b := by omega
        have HO := Lib.hid hO
        have HB2 := Lib.hid (HB.out.trans (hb.mono hsz))
        have HOK := Lib.hid hok
        have hw := hok.2.2.2.1
        have hpos := wordsO_pos (obR h a)
        have HR2 := Lib.hid (HR.out.below hb)
        have hsz2 := hb.size
        have hne2 := Lib.hid (fun k (hk : (Value.slice Ao l.length co).ownBlock = some k) => (HR.out.row.lt k hk).2)
        clear hO hb hok hab
        go_wp2_with (at_builtin; go_loud (refine wpList_append_own_at _ rfl _ _ 38 rfl w.heap.size 33 i0 _ 5 64 Try.underlying38 hi hz0 hz1 hz2 rfl (by omega) (.slice Ao l.length co) l.length (flatC C l.length) rfl ((HR2.out.row.alloc _).alloc _) ⟨w2.heap.size + 1, 0, none⟩ 1 1 (obC a (obR h a) pA pc) rfl rfl (cell_newL _ _ _ _ (by simp)) (obC_one _ _ _ _) (by unfold maxLen; omega) (by omega) (by simp; omega) ?_; intro v5 w5 hq5 hg5 _ hat5; have HQ5 := Lib.hid hq5; have HG5 := Lib.hid hg5; have HA5 := Lib.hid hat5; clear hq5 hg5 hat5))
        have HG := Lib.hid (show w2.grownBy w5 (Value.slice Ao l.length co).ownBlock from grown_step (World.grownBy_alloc w2 _ _) (grown_step (World.grownBy_alloc _ _ _) HG5.out (.inl rfl)) (.inl rfl))
        have hw0 : (a : Int) + ((wordsO (obR h a)).length : Int) = ((a + (wordsO (obR h a)).length : Nat) : Int) := by omega
        go_roundw
        case rel =>
          refine ⟨l ++ [obR h a], _, a + (wordsO (obR h a)).length, v5, rfl, by go_num, by omega, flatO_step HL.out HOK.out, fun o ho => ?_, HR2.out.snoc (obR h a) pA pc HG.out ?_ ?_ (OwnU.mono HO.out hsz) ?_, ?_⟩
          · rcases List.mem_append.1 ho with ho | ho
            · exact HGO.out o ho
            · rw [List.mem_singleton.1 ho]; exact reads_good HOK.out H64.out
          · have e : (flatO l).length = a := by rw [HL.out, List.length_take]; omega
            rw [e]
            exact HQ5.out
          · rcases HA5.out with h | h
            · exact .inl h
            · exact .inr ⟨_, h, by simp; omega⟩
          · intro k hk e
            have h1 := (HO.out.blk k hk).1
            have h2 := hne2.out k e
            omega
          · exact below_grown HB2.out HB2.out.size HG.out (fun g hg => (HR.out.row.lt g hg).1)
        case measure => simp [intOf]; omega
      · have HX := Lib.hid hx
        have HB2 := Lib.hid (HB.out.trans (hb.mono hsz))
        have HNO := Lib.hid (show ¬ ∃ m, ObsOf h m from obs_none HL.out hlt HGO.out (fun hh => hno ⟨a, rfl, hh⟩))
        have x0 : (x != 0) = true := by simpa using hx
        clear hx hb hno
        go_wp2_with fail
        go_ret2
        exact .inr ⟨fun hh => HNO.out hh.2, 3, by omega, rfl, HB2.out.alloc HB2.out.size _⟩
    · obtain rfl : a = h.length := by omega
      have d1 : decide ((h.length : Int) < (h.length : Int)) = false := by simp
      go_wp2_with fail
      go_ret2
      exact .inl ⟨hl4, l, ⟨by have := HL.out; rw [List.take_length] at this; exact this.symm, HGO.out⟩, _, C, rfl, HR.out, HB.out⟩
end Go.Proofs.Ytkdbnkkdohkhjaa
