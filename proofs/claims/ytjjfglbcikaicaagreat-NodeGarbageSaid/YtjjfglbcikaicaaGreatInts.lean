/- Rows of numbers: words, one number more, and the contracts of slices.Index, Contains, Equal and Clone over ints. -/
import Derived.Test.YtjjfglbcikaicaaGreatKeep
import Derived.Deep.QuietTactic
import Derived.BigQuiet
namespace Go.Proofs.YtjjfglbcikaicaaGreat
open Go.RowKit
set_option linter.unusedVariables false
def tmC (T : Nat → Int) : Nat → List Value := fun k => [.int .i64 (T k)]
theorem tmC_len (T : Nat → Int) : ∀ k, (tmC T k).length = 1 := fun _ => rfl
theorem tmC_one (T : Nat → Int) : ∀ k u, u ∈ tmC T k → u.oneCell' = true := fun k u h => by
  simp [tmC] at h
  subst h; rfl
/-- a row of the call's own that holds the numbers l -/
def encI (l : List Int) : List Value := l.map (Value.int .i64)
def OwnI (w : World) (base : Nat) (v : Value) (l : List Int) : Prop := w.ownsRow base 3 1 v l.length (encI l)
def fl (T : Nat → Int) (m : Nat) : List Int := (List.range m).map T
theorem fl_succ (T : Nat → Int) (m : Nat) : fl T (m + 1) = fl T m ++ [T m] := by simp [fl, List.range_succ]
theorem fl_len (T : Nat → Int) (m : Nat) : (fl T m).length = m := by simp [fl]
theorem fl_get (T : Nat → Int) {m j : Nat} (h : j < m) : (fl T m)[j]? = some (T j) := by simp [fl, h]
theorem flatC_fl (T : Nat → Int) (m : Nat) : flatC (tmC T) m = encI (fl T m) := by
  induction m with
  | zero => rfl
  | succ m ih => rw [flatC, ih, fl_succ]; simp [encI, tmC]
theorem encI_get {l : List Int} {j : Nat} {x : Int} (h : l[j]? = some x) : (encI l)[j]? = some (.int .i64 x) := by simp [encI, h]
theorem infoI : (Tryz.prog.info? 3).map (fun i => (i.zero, i.size, i.bytes)) = some (some (.int .i64 0), 1, 8) := by kernel_rfl
theorem OwnI.alloc {w : World} {base : Nat} {v : Value} {l : List Int} (h : OwnI w base v l) (o : Obj) : OwnI (w.alloc o) base v l := World.ownsRow.alloc h o
theorem OwnI.grown {w w1 : World} {base : Nat} {v : Value} {l : List Int} {row : Option Nat} (h : OwnI w base v l) (hg : w.grownBy w1 row) (hne : ∀ k, v.ownBlock = some k → row ≠ some k) : OwnI w1 base v l := own_grown h hg hne
theorem OwnI.below {w w1 : World} {base : Nat} {v : Value} {l : List Int} (h : OwnI w base v l) (hb : Below w.heap.size w w1) : OwnI w1 base v l := own_keep h hb
theorem OwnI.mono {w : World} {base base' : Nat} {v : Value} {l : List Int} (h : OwnI w base v l) (hb : base' ≤ base) : OwnI w base' v l := own_mono h hb
theorem OwnI.blk {w : World} {base : Nat} {v : Value} {l : List Int} (h : OwnI w base v l) : ∀ k, v.ownBlock = some k → base ≤ k ∧ k < w.heap.size := World.ownsRow.lt h
theorem OwnI.nil (w : World) (base : Nat) : OwnI w base (.slice none 0 0) [] := World.ownsRow_nil _ _ _ _
/-- one number more -/
theorem wpList_append_int {ops : Array Oper} {rest : List Oper} {o : Oper} {a : Act} {w : World} {Q : Exit → Act → World → Prop} (hgd : o.guard = none) (s x : Operand)
    (ho : o.op = .call { callee := .builtin .append, args := #[s, x], argTypes := #[26, 26] }) (base : Nat) (v : Value) (l : List Int) (hs : a.eval s = v) (hown : OwnI w base v l)
    (H : Nat) (hH : w.heap.size = H) (y : Int) (hx : a.eval x = .slice (some ⟨H, 0, none⟩) 1 1) (hl : l.length ≤ 1000000) (hbase : base ≤ w.heap.size)
    (h : ∀ v' w', OwnI w' base v' (l ++ [y]) → w.grownBy w' v.ownBlock → (v'.ownBlock = v.ownBlock ∨ v'.ownBlock = some (H + 1)) → wpList Tryz.prog ops Q rest (a.put o.dst v') w') :
    wpList Tryz.prog ops Q (o :: rest) a (w.alloc (.cells #[.int .i64 y] 3)) := by
  obtain ⟨i0, hi, hz0, hz1, hz2⟩ := info_parts infoI
  subst hH
  refine wpList_append_own_at _ hgd s x 26 ho base 3 i0 (.int .i64 0) 1 8 Tryz.underlying26 hi hz0 hz1 hz2 rfl (by decide) v l.length (encI l) hs (hown.alloc _) ⟨w.heap.size, 0, none⟩ 1 1 [.int .i64 y] hx rfl (cell_one_new _ _ _) ?_ ?_ ?_ ?_ ?_
  · intro u hu; simp at hu; subst hu; rfl
  · unfold maxLen; omega
  · omega
  · simp; omega
  · intro v' w' h1 h2 _ h4
    refine h v' w' ?_ (grown_step (World.grownBy_alloc w _ _) h2 (.inl rfl)) (by simpa using h4)
    unfold OwnI encI
    rw [List.length_append, List.map_append]
    exact h1
def lst (l : List Int) : Nat → Int := fun k => l.getD k 0
theorem flatC_lst (l : List Int) : flatC (tmC (lst l)) l.length = encI l := by
  rw [flatC_fl]
  congr 1
  apply List.ext_getElem?
  intro j
  by_cases hj : j < l.length
  · rw [fl_get _ hj, List.getElem?_eq_getElem hj]; simp [lst, hj]
  · rw [List.getElem?_eq_none (by rw [fl_len]; omega), List.getElem?_eq_none (by omega)]
theorem OwnI.rd {w : World} {base n c : Nat} {A : Option Addr} {l : List Int} (h : OwnI w base (.slice A n c) l) : Rd w 1 (tmC (lst l)) A l.length := by
  obtain ⟨A', c', hv, _⟩ := own_any h
  injection hv with h1 h2 h3
  subst h1 h2 h3
  refine Rd.of_own (tmC_len _) (c := c) (base := base) (e := 3) ?_
  rw [flatC_lst]
  exact h
theorem any_lst (l : List Int) (x : Int) : anyOf (fun k => x == lst l k) l.length = decide (x ∈ l) := by
  rw [Bool.eq_iff_iff, anyOf_true, decide_eq_true_eq, List.mem_iff_getElem?]
  constructor
  · rintro ⟨k, hk, h⟩
    refine ⟨k, ?_⟩
    simp [lst, hk] at h
    rw [List.getElem?_eq_getElem hk, h]
  · rintro ⟨k, h⟩
    obtain ⟨hk, h'⟩ := List.getElem?_eq_some_iff.1 h
    exact ⟨k, hk, by simp [lst, hk, h']⟩
set_option maxHeartbeats 400000 in
theorem indexI_any (A : Option Addr) (n c : Nat) (T : Nat → Int) (x : Int) (w : World) (hn : n ≤ 9223372036854775807) (hT : Rd w 1 (tmC T) A n) :
    Calls Tryz.prog 58 #[.slice A n c, .int .i64 x] w fun e w' => e = .returned (.int .i64 (ixOf (fun k => x == T k) n)) ∧ w = w' := by
  have HT := Lib.hid hT
  clear hT
  go_enter Tryz.func58, Tryz.ntmps58
  go_wp2_with fail
  go_loop [5, 8] (fun _ i => ∃ k : Nat, k ≤ n ∧ i = .int .i64 k ∧ (∀ j, j < k → (x == T j) = false)) (fun _ i => n - (intOf i).toNat)
  case atStart => exact ⟨0, Nat.zero_le _, rfl, fun j hj => by omega⟩
  case round =>
    obtain ⟨k, hk, rfl, hlow⟩ := hrel
    have HL := Lib.hid hlow
    clear hlow
    by_cases hlt : k < n
    · obtain ⟨b, off, rfl, hb, hcell⟩ := HT.out (by omega)
      have c0 : w.cell? ⟨b, off + k, none⟩ = some (.int .i64 (T k)) := by simpa using hcell k hlt 0 _ rfl
      clear hcell
      by_cases hp : (x == T k) = true
      · go_wp2_with fail
        go_ret
        exact ⟨ret_int (ixOf_found hlt hp HL.out).symm, rfl⟩
      · have hp' : (x == T k) = false := by simpa using hp
        clear hp
        go_wp2_with fail
        go_round
        case rel =>
          refine ⟨k + 1, by omega, by go_num, fun j hj => ?_⟩
          by_cases e : j = k
          · rw [e]; exact hp'
          · exact HL.out j (by omega)
        case measure => simp [intOf]; omega
    · go_wp2_with fail
      go_ret
      exact ⟨ret_int (ixOf_none fun j hj => HL.out j (by omega)).symm, rfl⟩
set_option maxHeartbeats 400000 in
theorem containsI_any (A : Option Addr) (n c : Nat) (T : Nat → Int) (x : Int) (w : World) (hn : n ≤ 9223372036854775807) (hT : Rd w 1 (tmC T) A n) :
    Calls Tryz.prog 31 #[.slice A n c, .int .i64 x] w fun e w' => e = .returned (.bool (anyOf (fun k => x == T k) n)) ∧ w = w' := by
  have H := Lib.hid (indexI_any A n c T x w hn hT)
  clear hT
  go_enter Tryz.func31, Tryz.ntmps31
  go_wp2_with fail
  refine H.out.mono ?_
  rintro e w1 ⟨rfl, rfl⟩
  go_wp2_with fail
  go_ret
  exact ⟨rfl, rfl⟩

set_option maxHeartbeats 800000 in
theorem equalI_any (A B : Option Addr) (n c m d : Nat) (T U : Nat → Int) (w : World) (hn : n ≤ 9223372036854775807) (hm : m ≤ 9223372036854775807) (hT : Rd w 1 (tmC T) A n) (hU : Rd w 1 (tmC U) B m) :
    Calls Tryz.prog 30 #[.slice A n c, .slice B m d] w fun e w' => e = .returned (.bool (decide (n = m) && !anyOf (fun k => T k != U k) n)) ∧ ∃ q, w' = w.drewN q := by
  have HT := Lib.hid hT
  have HU := Lib.hid hU
  clear hT hU
  by_cases hnm : n = m
  · subst hnm
    have hne : ((n : Int) != (n : Int)) = false := by simp
    go_enter Tryz.func30, Tryz.ntmps30
    go_wp2_with fail
    go_loopw [5, 13] (fun _ i wr => ∃ k q : Nat, k ≤ n ∧ i = .int .i64 k ∧ (∀ j, j < k → (T j != U j) = false) ∧ wr = w.drewN q) (fun _ i _ => n - (intOf i).toNat)
    case atStart => exact ⟨0, 0, Nat.zero_le _, rfl, fun j hj => by omega, rfl⟩
    case round =>
      obtain ⟨k, q, hk, rfl, hlow, rfl⟩ := hrel
      have HL := Lib.hid hlow
      clear hlow
      by_cases hlt : k < n
      · obtain ⟨b, off, rfl, hb, hcell⟩ := HT.out (by omega)
        obtain ⟨b2, off2, rfl, hb2, hcell2⟩ := HU.out (by omega)
        have c0 : (w.drewN q).cell? ⟨b, off + k, none⟩ = some (.int .i64 (T k)) := by simpa using hcell k hlt 0 _ rfl
        have c1 : (w.drewN q).cell? ⟨b2, off2 + k, none⟩ = some (.int .i64 (U k)) := by simpa using hcell2 k hlt 0 _ rfl
        have i1 : (0 : Int) ≤ (k : Int) := by omega
        have i2 : (k : Int) < (n : Int) := by omega
        clear hcell hcell2
        generalize hW : w.drewN q = wx at *
        have HW := Lib.hid hW
        clear hW
        by_cases hp : (T k != U k) = true
        · go_wp2_with fail
          go_quiet (fail)
          go_wp2_with fail
          go_ret
          refine ⟨ret_bool ?_, q + nq, by rw [← HW.out, drewN_drewN]⟩
          have h1 : anyOf (fun k => T k != U k) n = true := anyOf_true.2 ⟨k, hlt, hp⟩
          simp only [h1]
          simp
        · have hp' : (T k != U k) = false := by simpa using hp
          clear hp
          go_wp2_with fail
          go_quiet (fail)
          go_wp2_with fail
          go_roundw
          case rel =>
            refine ⟨k + 1, q + nq, by omega, by go_num, fun j hj => ?_, by rw [← HW.out, drewN_drewN]⟩
            by_cases e : j = k
            · rw [e]; exact hp'
            · exact HL.out j (by omega)
          case measure => simp [intOf]; omega
      · go_wp2_with fail
        go_ret
        have h1 : anyOf (fun k => T k != U k) n = false := anyOf_false.2 (fun j hj => HL.out j (by omega))
        exact ⟨ret_bool (by simp only [h1]; simp), q, rfl⟩
  · have hne : ((n : Int) != (m : Int)) = true := by simp; omega
    have H0 := Lib.hid hnm
    clear hnm
    go_enter Tryz.func30, Tryz.ntmps30
    go_wp2_with fail
    go_ret
    exact ⟨ret_bool (by simp [H0.out]), 0, rfl⟩

theorem info_cloneInt : (Tryz.prog.info? 3).map (fun i => (i.zero, i.size, i.bytes)) = some (some (.int .i64 0), 1, 8) := by kernel_rfl
set_option maxRecDepth 100000 in
set_option maxHeartbeats 400000 in
theorem cloneInt (A : Option Addr) (n c : Nat) (g : Nat → List Value) (w : World) (hR : Rd w 1 g A n) (hl : ∀ k, (g k).length = 1) (h1 : ∀ k u, u ∈ g k → u.oneCell' = true)
    (hA : A = none → n = 0) (hn : n * 8 ≤ 140737488355328) :
    Calls Tryz.prog 98 #[.slice A n c] w (ClonePost 3 1 n (flatC g n) w) := by
  obtain ⟨i0, hi, hz0, hz1, hz2⟩ := info_parts info_cloneInt
  have hnil := fun (w : World) => Lib.run_eql_slice_nil (P := Tryz.prog) w
  cases A with
  | none =>
    obtain rfl := hA rfl
    clear hR hl h1 hA hi hz0 hz1 hz2 hn
    go_enter Tryz.func98, Tryz.ntmps98
    go_wp2_with fail
    go_ret
    exact ⟨_, rfl, World.ownsRow_nil _ _ _ _, Below.refl _ _⟩
  | some a =>
    have hn0 : ∀ (o : Obj) j u, (flatC g n)[j]? = some u → (w.alloc o).cell? (a.add j) = some u := fun o j u hu => by
      obtain ⟨q1, q2, q3⟩ := flatC_at hl (by omega) hu
      obtain ⟨b, off, hab, hb, hc⟩ := hR (by omega)
      injection hab with hab
      subst hab
      have e : (⟨b, off, none⟩ : Addr).add j = ⟨b, off + j / 1 * 1 + j % 1, none⟩ := by
        have := Nat.div_add_mod' j 1
        unfold Addr.add
        split
        · rename_i h; subst h; simp
        · simp; omega
      rw [e, World.cell?_alloc_lt _ _ _ hb]
      exact hc _ q1 _ _ q3
    have HN := Lib.hid hn0
    have H1 := Lib.hid h1
    have HL := Lib.hid (flatC_length hl n)
    clear hR hl h1 hA hn0
    go_enter Tryz.func98, Tryz.ntmps98
    go_wp2_with (at_builtin; refine wpList_append_own _ rfl _ _ 26 rfl w.heap.size 3 i0 _ 1 8 Tryz.underlying26 hi hz0 hz1 hz2 rfl (by omega) (.slice (some ⟨w.heap.size, 0, none⟩) 0 0) 0 [] rfl (World.ownsRow_lit w #[] 0 (Nat.le_refl _) (by simp [maxLen]) rfl) a n c (flatC g n) rfl HL.out (HN.out _) (fun u hu => by obtain ⟨k, _, hk⟩ := flatC_mem hu; exact H1.out k u hk) (by unfold maxLen; omega) (by omega) (by simp) ?_; intro v1 w1 hown hgrow _; simp only [Nat.zero_add, List.nil_append] at hown)
    go_ret
    exact ⟨v1, rfl, hown, ((Below.refl _ _).alloc (Nat.le_refl _) _).grown hgrow (by simp) (by simp [Value.ownBlock])⟩

end Go.Proofs.YtjjfglbcikaicaaGreat
