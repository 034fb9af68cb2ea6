/- link.Add, and the closed fact of the laws on links. -/
import Derived.Test.YtcjkibjaajbfmaaLinkF
namespace Go.Proofs.Ytcjkibjaajbfmaa
open Go.RowKit
set_option linter.unusedVariables false
theorem own_at {w : World} {base : Nat} {e : TypeId} {sz n : Nat} {v : Value} {xs : List Value} (h : w.ownsRow base e sz v n xs) {k : Nat} (hk : v.ownBlock = some k) : ∃ cur, w.heap[k]? = some (.cells cur e (0, 0)) := by
  rcases h.2 with ⟨hv, _⟩ | ⟨g, cap, cur, hv, hb, hg, _⟩
  · rw [hv] at hk; cases hk
  · have : g = k := by rw [hv] at hk; simpa [Value.ownBlock] using hk
    subst this
    exact ⟨cur, hg⟩
/-- rows of different types lie apart -/
theorem own_apart {w : World} {b b' : Nat} {e e' : TypeId} {sz sz' n n' : Nat} {v v' : Value} {xs xs' : List Value} (h : w.ownsRow b e sz v n xs) (h' : w.ownsRow b' e' sz' v' n' xs') (hne : e ≠ e') : ∀ k, v.ownBlock = some k → v'.ownBlock ≠ some k := by
  intro k hk hk'
  obtain ⟨c, hc⟩ := own_at h hk
  obtain ⟨c', hc'⟩ := own_at h' hk'
  rw [hc] at hc'
  injection hc' with hc'
  injection hc' with _ h2 _
  exact hne h2
theorem iv_ins (vw vl : Nat → Value) (p j : Nat) (x y : Value) (s : Bool) : iv (insF vw p x) (insF vl p y) j s = if j = p then (if s then x else y) else iv vw vl (if j < p then j else j - 1) s := by
  unfold iv insF
  by_cases e : j = p
  · subst e
    cases s <;> simp
  · rw [if_neg e]
    cases s <;> simp only [Bool.false_eq_true, if_false, if_true, e] <;> split <;> rfl
theorem il_ins (R : Nat → LR) (p j : Nat) (r : LR) (s : Bool) : il (insF R p r) j s = if j = p then (if s then r.ws else r.ls) else il R (if j < p then j else j - 1) s := by
  unfold il insF
  by_cases e : j = p
  · subst e
    cases s <;> simp
  · rw [if_neg e]
    cases s <;> simp only [Bool.false_eq_true, if_false, if_true, e] <;> split <;> rfl
theorem rwC_ins (R : Nat → LR) (vw vl : Nat → Value) (p : Nat) (r : LR) (x y : Value) : rwC (insF R p r) (insF vw p x) (insF vl p y) = insF (rwC R vw vl) p [.int .i64 r.ref, x, y] := by
  funext k
  unfold rwC insF
  split
  · rfl
  · split <;> rfl
/-- a row more, without watches and links -/
theorem OwnL.ins {w w2 : World} {base n p : Nat} {v v' : Value} {R : Nat → LR} {vw vl : Nat → Value} {ref : Int} {row : Option Nat} (h : OwnL w base v n R vw vl) (hp : p ≤ n) (hg : w.grownBy w2 row) (hrow : ∀ k, row = some k → v.ownBlock = some k)
    (hown : w2.ownsRow base 68 3 v' (n + 1) ((flatC (rwC R vw vl) n).take (p * 3) ++ [.int .i64 ref, .slice none 0 0, .slice none 0 0] ++ (flatC (rwC R vw vl) n).drop (p * 3))) :
    OwnL w2 base v' (n + 1) (insF R p ⟨ref, [], []⟩) (insF vw p (.slice none 0 0)) (insF vl p (.slice none 0 0)) := by
  have hx : ∀ j, j < n + 1 → j ≠ p → (if j < p then j else j - 1) < n := fun j hj hne => by split <;> omega
  have hnil : ∀ s : Bool, (if s then (Value.slice none 0 0) else (Value.slice none 0 0)) = .slice none 0 0 := fun s => by cases s <;> rfl
  have heach : ∀ j, j < n + 1 → ∀ s, OwnI w2 base (iv (insF vw p (.slice none 0 0)) (insF vl p (.slice none 0 0)) j s) (il (insF R p ⟨ref, [], []⟩) j s) := fun j hj s => by
    rw [iv_ins, il_ins]
    by_cases e : j = p
    · rw [if_pos e, if_pos e, hnil]
      cases s <;> exact OwnI.nil _ _
    · rw [if_neg e, if_neg e]
      exact (h.each _ (hx j hj e) s).grown hg (fun k hk e2 => h.outer _ (hx j hj e) s k hk (hrow k e2))
  refine ⟨?_, heach, fun a b ha hb s t hst k hk => ?_, fun j hj s k hk => ?_⟩
  · rw [ins_flatG (rwC_len _ _ _) hp (rwC_ins R vw vl p ⟨ref, [], []⟩ _ _)] at hown
    exact hown
  · rw [iv_ins] at hk ⊢
    by_cases e : a = p
    · rw [if_pos e, hnil] at hk; cases hk
    · rw [if_neg e] at hk
      by_cases e2 : b = p
      · rw [if_pos e2, hnil]; exact fun h => by cases h
      · rw [if_neg e2]
        refine h.apart _ _ (hx a ha e) (hx b hb e2) s t (fun h2 => hst ⟨?_, h2.2⟩) k hk
        have := h2.1
        split at this <;> split at this <;> omega
  · exact own_apart (heach j hj s) hown (by decide) k hk
set_option maxHeartbeats 4000000 in
set_option maxRecDepth 100000 in
/-- Insert of one element into nothing -/
theorem ins_nil (base vb : Nat) (r : List Value) (w : World) (hb : base ≤ w.heap.size) (hvb : w.heap[vb]? = some (.cells r.toArray 68 (0, 0))) (hr : r.length = 3) (h1r : ∀ v ∈ r, v.oneCell' = true) :
    Calls Try.prog 58 #[.slice none 0 0, .int .i64 0, .slice (some ⟨vb, 0, none⟩) 1 1] w fun e w' => ∃ v, e = .returned v ∧ w'.ownsRow base 68 3 v 1 r ∧ w.grownBy w' none := by
  obtain ⟨i0, hi0, hz0, hzs, hzb⟩ := info_parts infoR
  have HV := Lib.hid (show ∀ j u, r[j]? = some u → w.cell? ((⟨vb, 0, none⟩ : Addr).add j) = some u from fun j u hj => by rw [Addr.add_lit, cell_of_row hvb]; simpa using hj)
  have H1 := Lib.hid h1r
  have HR := Lib.hid hr
  clear hvb hr h1r
  go_enter Try.func58, Try.ntmps58
  go_wp2_with (at_builtin; go_loud (refine wpList_append_own_at _ rfl _ _ 62 rfl base 68 i0 _ 3 56 Try.underlying62 hi0 hz0 hzs hzb rfl (by omega) (.slice none 0 0) 0 [] rfl (World.ownsRow_nil _ _ _ _) ⟨vb, 0, none⟩ 1 1 r rfl (by rw [HR.out]) HV.out H1.out (by unfold maxLen; omega) (by omega) (by omega) ?_; intro v1 w1 hown1 hgrow1 _ _; have HO1 := Lib.hid hown1; have HG1 := Lib.hid hgrow1; clear hown1 hgrow1))
  all_goals
    go_ret
    exact ⟨_, rfl, HO1.out, HG1.out⟩
/-- where a new row comes -/
def PosL (R : Nat → LR) (n : Nat) (ref : Int) (p : Nat) : Prop := p ≤ n ∧ (∀ k, k < p → (R k).ref < ref) ∧ (p < n → ref < (R p).ref)
def AddOk (R : Nat → LR) (n : Nat) (ref : Int) : Prop := OkL R n ∧ 1 ≤ ref ∧ (∀ k, k < n → (R k).ref ≠ ref) ∧ n ≠ 100
theorem rows_ref_one (a : Int) : ∀ u ∈ ([.int .i64 a, .slice none 0 0, .slice none 0 0] : List Value), u.oneCell' = true := by
  intro u hu
  simp at hu
  rcases hu with rfl | rfl <;> rfl
def AddPost (R : Nat → LR) (n : Nat) (ref : Int) (w : World) (e : Ending) (w' : World) : Prop := (¬ AddOk R n ref ∧ RowsBad w e w') ∨ (AddOk R n ref ∧ ∃ p, PosL R n ref p ∧ RowsOk (insF R p ⟨ref, [], []⟩) (n + 1) w e w')
set_option maxRecDepth 100000 in
set_option maxHeartbeats 4000000 in
theorem add_any (A : Option Addr) (n c : Nat) (R : Nat → LR) (vw vl : Nat → Value) (ref : Int) (w : World) (hn : n ≤ c) (hc : c ≤ 9223372036854775807) (hR : RdL w A n R vw vl) :
    Calls Try.prog 44 #[.slice A n c, .int .i64 ref] w (AddPost R n ref w) := by
  have HR := Lib.hid hR
  clear hR
  go_enter Try.func44, Try.ntmps44
  go_wp2_with fail
  refine (check_any A n c R vw vl _ hn hc HR.out).mono ?_
  rintro e w1 ⟨x, rfl, hx, hb⟩
  have HB1 := Lib.hid hb
  have HX := Lib.hid hx
  have hs1 := hb.size
  clear hb hx
  by_cases hx0 : x = 0
  rotate_left
  · have e0 : (x != 0) = true := by simpa using hx0
    have HX0 := Lib.hid hx0
    clear hx0
    go_wp2_with fail
    go_ret2
    exact .inl ⟨fun h => HX0.out (HX.out.2 h.1), x, HX0.out, rfl, HB1.out⟩
  subst hx0
  have HK := Lib.hid (HX.out.1 rfl)
  have hn100 := HK.out.1
  go_wp2_with fail
  go_loop [7] (fun x => ∃ k : Nat, k ≤ n ∧ x = .int .i64 k ∧ ∀ j, j < k → (R j).ref < ref) (fun x => n - (intOf x).toNat)
  case atStart => exact ⟨0, Nat.zero_le _, rfl, fun j hj => by omega⟩
  case round =>
    obtain ⟨k, hk, rfl, hlow⟩ := hrel
    have HLOW := Lib.hid hlow
    clear hlow
    have m0 : (0 : Int) ≤ (k : Int) := by omega
    have bad : ∀ y : Int, y ≠ 0 → ¬ AddOk R n ref → AddPost R n ref w (.returned (.tuple #[.slice none 0 0, .int .i64 y])) w1 := fun y hy h => .inl ⟨h, y, hy, rfl, HB1.out⟩
    have BAD := Lib.hid bad
    clear bad
    by_cases hlt : k < n
    · obtain ⟨b, off, rfl, hb, hcell⟩ := HR.out.row (by omega)
      have c0 : w1.cell? ⟨b, off + k * 3, none⟩ = some (.int .i64 (R k).ref) := (HB1.out.cell (p := ⟨b, _, none⟩) hb).trans (hcell k hlt 0 _ rfl)
      have m1 : (k : Int) < (n : Int) := by omega
      clear hcell
      by_cases hl : (R k).ref < ref
      · have dl : decide ((R k).ref < ref) = true := by simpa using hl
        go_wp2_with fail
        go_round
        case rel =>
          refine ⟨k + 1, by omega, by go_num, fun j hj => ?_⟩
          by_cases e : j = k
          · subst e; exact hl
          · exact HLOW.out j (by omega)
        case measure => simp [intOf]; omega
      · have dl : decide ((R k).ref < ref) = false := by simpa using hl
        by_cases h1 : ref < 1
        · have d1 : decide (ref < 1) = true := by simpa using h1
          go_wp2_with fail
          go_ret2
          exact BAD.out 1 (by omega) (fun h => by have := h.2.1; omega)
        have d1 : decide (ref < 1) = false := by simpa using h1
        by_cases h2 : (R k).ref = ref
        · have d2 : ((R k).ref == ref) = true := by simpa using h2
          go_wp2_with fail
          go_ret2
          exact BAD.out 5 (by omega) (fun h => h.2.2.1 k hlt h2)
        have d2 : ((R k).ref == ref) = false := by simpa using h2
        by_cases h3 : n = 100
        · have d3 : ((n : Int) == 100) = true := by simp; omega
          have H3 := Lib.hid h3
          clear h3
          go_wp2_with fail
          go_ret2
          exact BAD.out 6 (by omega) (fun h => h.2.2.2 H3.out)
        have d3 : ((n : Int) == 100) = false := by simp; omega
        have HPOS := Lib.hid (show PosL R n ref k from ⟨hk, HLOW.out, fun h => by omega⟩)
        have HAOK := Lib.hid (show AddOk R n ref from ⟨HK.out, by omega, fun j hj he => by
          rcases Nat.lt_trichotomy j k with hlt2 | e | hlt2
          · have := HLOW.out j hlt2; omega
          · subst e; exact h2 he
          · have := HK.out.mono k j hlt2 hj; omega, h3⟩)
        clear h1 h3 h2
        go_wp2_with fail
        refine (copy_any (some ⟨b, off, none⟩) n c R vw vl _ hn hc hn100 (HR.out.below HB1.out) (fun j hj => ⟨(HK.out.2 j hj).2.1, (HK.out.2 j hj).2.2.1⟩)).mono ?_
        rintro e w3 ⟨v, vw', vl', rfl, hO, hb3⟩
        have HO := Lib.hid (hO.below ((Below.refl _ _).alloc (Nat.le_refl _) (.cells #[.int .i64 ref, .slice none 0 0, .slice none 0 0] 68)))
        have HB3 := Lib.hid (HB1.out.trans (hb3.mono hs1))
        have hs3 := hb3.size
        have HVB := Lib.hid (show (w3.alloc (.cells #[.int .i64 ref, .slice none 0 0, .slice none 0 0] 68)).heap[w3.heap.size]? = some (.cells ([.int .i64 ref, .slice none 0 0, .slice none 0 0] : List Value).toArray 68 (0, 0)) from by show (w3.heap.push _)[w3.heap.size]? = _; simp)
        have hrow := hO.row
        clear hO hb3 c0
        rcases hrow.2 with ⟨hv, h0⟩ | ⟨g, cap, cur, hv, _⟩
        · omega
        · subst hv
          have HGB := Lib.hid (own_lt hrow)
          clear hrow
          go_wp2_with fail
          refine (ins_any w1.heap.size g cap n k w3.heap.size (flatC (rwC R vw' vl') n) [.int .i64 ref, .slice none 0 0, .slice none 0 0] _ hk (by omega) HO.out.row HVB.out (by have := HGB.out.2; omega) rfl HO.out.one (rows_ref_one _)).mono ?_
          rintro e w4 ⟨v4, rfl, hown4, hg4⟩
          obtain ⟨A4, c4, rfl, _⟩ := own_any hown4
          have HO4 := Lib.hid hown4
          have HG4 := Lib.hid hg4
          clear hown4 hg4
          go_wp2_with fail
          go_ret2
          refine .inr ⟨HAOK.out, k, HPOS.out, A4, c4, _, _, rfl, (HO.out.ins hk HG4.out (fun j hj => hj) HO4.out).mono hs1, ?_⟩
          exact below_grown (HB3.out.alloc (by omega) _) (by simp; omega) HG4.out (fun j hj => by injection hj with hj; have := HGB.out.1; omega)
    · obtain rfl : k = n := by omega
      by_cases h1 : ref < 1
      · have d1 : decide (ref < 1) = true := by simpa using h1
        go_wp2_with fail
        go_ret2
        exact BAD.out 1 (by omega) (fun h => by have := h.2.1; omega)
      have d1 : decide (ref < 1) = false := by simpa using h1
      by_cases h3 : k = 100
      · have d3 : ((k : Int) == 100) = true := by simp; omega
        have H3 := Lib.hid h3
        clear h3
        go_wp2_with fail
        go_ret2
        exact BAD.out 6 (by omega) (fun h => h.2.2.2 H3.out)
      have d3 : ((k : Int) == 100) = false := by simp; omega
      have HPOS := Lib.hid (show PosL R k ref k from ⟨Nat.le_refl _, HLOW.out, fun h => by omega⟩)
      have HAOK := Lib.hid (show AddOk R k ref from ⟨HK.out, by omega, fun j hj he => by
        rcases Nat.lt_trichotomy j k with hlt2 | e | hlt2
        · have := HLOW.out j hlt2; omega
        · omega
        · omega, h3⟩)
      clear h1 h3
      go_wp2_with fail
      refine (copy_any A k c R vw vl _ hn hc hn100 (HR.out.below HB1.out) (fun j hj => ⟨(HK.out.2 j hj).2.1, (HK.out.2 j hj).2.2.1⟩)).mono ?_
      rintro e w3 ⟨v, vw', vl', rfl, hO, hb3⟩
      have HO := Lib.hid (hO.below ((Below.refl _ _).alloc (Nat.le_refl _) (.cells #[.int .i64 ref, .slice none 0 0, .slice none 0 0] 68)))
      have HB3 := Lib.hid (HB1.out.trans (hb3.mono hs1))
      have hs3 := hb3.size
      have HVB := Lib.hid (show (w3.alloc (.cells #[.int .i64 ref, .slice none 0 0, .slice none 0 0] 68)).heap[w3.heap.size]? = some (.cells ([.int .i64 ref, .slice none 0 0, .slice none 0 0] : List Value).toArray 68 (0, 0)) from by show (w3.heap.push _)[w3.heap.size]? = _; simp)
      have hrow := hO.row
      clear hO hb3
      rcases hrow.2 with ⟨hv, h0⟩ | ⟨g, cap, cur, hv, _⟩
      · subst hv h0
        skip
        clear hrow
        go_wp2_with fail
        refine (ins_nil w.heap.size w3.heap.size [.int .i64 ref, .slice none 0 0, .slice none 0 0] _ (by simp; omega) HVB.out rfl (rows_ref_one _)).mono ?_
        rintro e w4 ⟨v4, rfl, hown4, hg4⟩
        obtain ⟨A4, c4, rfl, _⟩ := own_any hown4
        have HO4 := Lib.hid hown4
        have HG4 := Lib.hid hg4
        clear hown4 hg4
        go_wp2_with fail
        go_ret2
        refine .inr ⟨HAOK.out, 0, HPOS.out, A4, c4, _, _, rfl, (HO.out.mono hs1).ins (Nat.zero_le _) HG4.out (fun q hq => by cases hq) (by simpa [flatC] using HO4.out), ?_⟩
        exact below_grown (HB3.out.alloc (by omega) _) (by simp; omega) HG4.out (fun q hq => by cases hq)
      · subst hv
        have HGB := Lib.hid (own_lt hrow)
        clear hrow
        go_wp2_with fail
        refine (ins_any w1.heap.size g cap k k w3.heap.size (flatC (rwC R vw' vl') k) [.int .i64 ref, .slice none 0 0, .slice none 0 0] _ (Nat.le_refl _) (by omega) HO.out.row HVB.out (by have := HGB.out.2; omega) rfl HO.out.one (rows_ref_one _)).mono ?_
        rintro e w4 ⟨v4, rfl, hown4, hg4⟩
        obtain ⟨A4, c4, rfl, _⟩ := own_any hown4
        have HO4 := Lib.hid hown4
        have HG4 := Lib.hid hg4
        clear hown4 hg4
        go_wp2_with fail
        go_ret2
        refine .inr ⟨HAOK.out, k, HPOS.out, A4, c4, _, _, rfl, (HO.out.ins (Nat.le_refl _) HG4.out (fun j hj => hj) HO4.out).mono hs1, ?_⟩
        exact below_grown (HB3.out.alloc (by omega) _) (by simp; omega) HG4.out (fun j hj => by injection hj with hj; have := HGB.out.1; omega)
def R0 : Nat → LR := fun _ => ⟨0, [], []⟩
set_option maxRecDepth 100000 in
set_option maxHeartbeats 2000000 in
theorem links_any (w : World) : Calls Try.prog 32 #[] w fun e w' => e = .returned (.bool true) ∧ Below w.heap.size w w' := by
  have H := Lib.hid (add_any none 0 0 R0 (fun _ => .slice none 0 0) (fun _ => .slice none 0 0) 4 w (Nat.le_refl _) (by omega) ⟨fun h => by omega, fun k hk => by omega⟩)
  go_enter Try.func32, Try.ntmps32
  go_wp2_with fail
  refine H.out.mono ?_
  rintro e w1 (⟨hno, _⟩ | ⟨_, p, hp, A, c, vw, vl, rfl, hO, hb⟩)
  · exact absurd ⟨⟨by omega, fun k hk => by omega⟩, by omega, fun k hk => by omega, by omega⟩ hno
  · obtain rfl : p = 0 := by have := hp.1; omega
    obtain ⟨g, cap, hv, hbase, hglt, hnc, hcm⟩ := own_form hO.row (by omega)
    injection hv with e1 e2 e3
    subst e1 e3
    have c0 : w1.cell? ⟨g, 0, none⟩ = some (.int .i64 4) := by
      have := own_cellC (k := 0) hO.row (rwC_len _ _ _) (by omega) (j := 0) (by omega)
      simpa [rwC, insF] using this
    have HB := Lib.hid hb
    clear hO hb hp
    go_wp2_with fail
    go_ret
    exact ⟨rfl, HB.out⟩
end Go.Proofs.Ytcjkibjaajbfmaa
