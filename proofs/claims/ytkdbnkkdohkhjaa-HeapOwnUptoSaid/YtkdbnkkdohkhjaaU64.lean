/- Rows of words (uint64): words, one more, many more; the contracts of slices.Clone and Equal over them. -/
import Derived.Test.YtkdbnkkdohkhjaaFlat
import Derived.Test.YtkdbnkkdohkhjaaKeep
import Derived.Deep.AppendLies
import Derived.Deep.QuietTactic
import Derived.BigQuiet
import Derived.RegionTactic
import Derived.OwnWalk
namespace Go.Proofs.Ytkdbnkkdohkhjaa
open Go.RowKit
set_option linter.unusedVariables false
def uC (T : Nat → Nat) : Nat → List Value := fun k => [.int .u64 (T k : Int)]
theorem uC_len (T : Nat → Nat) : ∀ k, (uC T k).length = 1 := fun _ => rfl
theorem uC_one (T : Nat → Nat) : ∀ k u, u ∈ uC T k → u.oneCell' = true := fun k u h => by
  simp [uC] at h
  subst h; rfl
def encU (l : List Nat) : List Value := l.map fun (x : Nat) => Value.int .u64 (x : Int)
theorem encU_one (l : List Nat) : ∀ u ∈ encU l, u.oneCell' = true := fun u hu => by
  simp [encU] at hu
  obtain ⟨x, _, rfl⟩ := hu
  rfl
def nth (l : List Nat) : Nat → Nat := fun k => l.getD k 0
theorem nth_get {l : List Nat} {k : Nat} (h : k < l.length) : nth l k = l[k] := by simp [nth, h]
theorem encU_get {l : List Nat} {k : Nat} (h : k < l.length) : (encU l)[k]? = some (.int .u64 (nth l k : Int)) := by simp [encU, nth, h]
theorem flatC_nth (l : List Nat) : flatC (uC (nth l)) l.length = encU l := by
  have hl := flatC_length (uC_len (nth l)) l.length
  apply List.ext_getElem?
  intro j
  by_cases hj : j < l.length
  · have h1 := flatC_get (uC_len (nth l)) (k := j) (j := 0) hj (by omega)
    simp only [Nat.mul_one, Nat.add_zero] at h1
    rw [h1, encU_get hj]
    rfl
  · rw [List.getElem?_eq_none (by omega), List.getElem?_eq_none (by simp [encU]; omega)]
def OwnU (w : World) (base : Nat) (v : Value) (l : List Nat) : Prop := w.ownsRow base 27 1 v l.length (encU l)
/-- a slice that reads as the words l -/
def Su (w : World) (v : Value) (l : List Nat) : Prop := ∃ A c, v = .slice A l.length c ∧ l.length ≤ c ∧ c ≤ 9223372036854775807 ∧ (A = none → l.length = 0) ∧ Rd w 1 (uC (nth l)) A l.length
theorem Su.below {w w' : World} {v : Value} {l : List Nat} (h : Su w v l) (hb : Below w.heap.size w w') : Su w' v l := by
  obtain ⟨A, c, e, h1, h2, h3, h4⟩ := h
  exact ⟨A, c, e, h1, h2, h3, h4.below hb⟩
theorem Su.nil (w : World) : Su w (.slice none 0 0) [] := ⟨none, 0, rfl, Nat.le_refl _, by omega, fun _ => rfl, fun h => by simp at h⟩
theorem OwnU.rd {w : World} {base n c : Nat} {A : Option Addr} {l : List Nat} (h : OwnU w base (.slice A n c) l) : Rd w 1 (uC (nth l)) A l.length := by
  obtain ⟨A', c', hv, _⟩ := own_any h
  injection hv with h1 h2 h3
  subst h1 h2 h3
  refine Rd.of_own (uC_len _) (c := c) (base := base) (e := 27) ?_
  rw [flatC_nth]
  exact h
theorem Su.of_own {w : World} {base : Nat} {v : Value} {l : List Nat} (h : OwnU w base v l) : Su w v l := by
  obtain ⟨A, c, rfl, h1, h2, h3⟩ := own_any h
  exact ⟨A, c, rfl, h1, h2, h3, h.rd⟩
theorem OwnU.alloc {w : World} {base : Nat} {v : Value} {l : List Nat} (h : OwnU w base v l) (o : Obj) : OwnU (w.alloc o) base v l := World.ownsRow.alloc h o
theorem OwnU.grown {w w1 : World} {base : Nat} {v : Value} {l : List Nat} {row : Option Nat} (h : OwnU w base v l) (hg : w.grownBy w1 row) (hne : ∀ k, v.ownBlock = some k → row ≠ some k) : OwnU w1 base v l := own_grown h hg hne
theorem OwnU.below {w w1 : World} {base : Nat} {v : Value} {l : List Nat} (h : OwnU w base v l) (hb : Below w.heap.size w w1) : OwnU w1 base v l := own_keep h hb
theorem OwnU.mono {w : World} {base base' : Nat} {v : Value} {l : List Nat} (h : OwnU w base v l) (hb : base' ≤ base) : OwnU w base' v l := own_mono h hb
theorem OwnU.blk {w : World} {base : Nat} {v : Value} {l : List Nat} (h : OwnU w base v l) : ∀ k, v.ownBlock = some k → base ≤ k ∧ k < w.heap.size := World.ownsRow.lt h
theorem OwnU.nil (w : World) (base : Nat) : OwnU w base (.slice none 0 0) [] := World.ownsRow_nil _ _ _ _
theorem infoU : (Try.prog.info? 27).map (fun i => (i.zero, i.size, i.bytes)) = some (some (.int .u64 0), 1, 8) := by kernel_rfl
/-- append asks the second type only whether it is a number's -/
theorem append_types {P : Program} (t t' ty e e' : TypeId) (ht : P.underlying t = some (.slice e)) (ht' : P.underlying t' = some (.slice e')) (A : Option Addr) (n c : Nat) (x : Value) (w : World) :
    (Builtin.append_ #[t, t'] ty #[.slice A n c, x]).run P w = (Builtin.append_ #[t, t] ty #[.slice A n c, x]).run P w := by
  unfold Builtin.append_
  simp [run_underlying ht, run_underlying ht']
theorem run_append_of_nil {P : Program} (w : World) (base : Nat) (t ty e : TypeId) (i : TypeInfo) (size : Nat) (ht : P.underlying t = some (.slice e)) (hi : P.info? e = some i)
    (v : Value) (n : Nat) (xs : List Value) (hown : w.ownsRow base e size v n xs) (c : Nat) : (Builtin.append_ #[t, t] ty #[v, .slice none 0 c]).run P w = .ok v w := by
  rcases hown.2 with ⟨rfl, rfl⟩ | ⟨g, cap, cur, rfl, _, _, hnc, _⟩
  · simp [Builtin.append_, run_underlying ht, sizeOf, typeInfo, hi, Builtin.lenOf, Builtin.firstCells]
  · simp [Builtin.append_, run_underlying ht, sizeOf, typeInfo, hi, Builtin.lenOf, Builtin.firstCells, hnc, storeCells]
set_option maxRecDepth 100000 in
theorem run_append_us (w : World) (t ty : TypeId) (ht : Try.prog.underlying t = some (.slice 27)) (base : Nat) (v : Value) (l : List Nat) (hown : OwnU w base v l) (u : Value) (m : List Nat) (hS : Su w u m)
    (hl : l.length + m.length ≤ 1000000) (hbase : base ≤ w.heap.size) :
    ∃ v' w', (Builtin.append_ #[t, t] ty #[v, u]).run Try.prog w = .ok v' w' ∧ OwnU w' base v' (l ++ m) ∧ w.grownBy w' v.ownBlock ∧ (v'.ownBlock = v.ownBlock ∨ v'.ownBlock = some w.heap.size) := by
  obtain ⟨i0, hi, hz0, hz1, hz2⟩ := info_parts infoU
  obtain ⟨A, c, rfl, _, _, hA, hR⟩ := hS
  cases A with
  | none =>
    have hm : m = [] := List.eq_nil_of_length_eq_zero (hA rfl)
    subst hm
    refine ⟨v, w, ?_, by rw [List.append_nil]; exact hown, grown_self _ _, .inl rfl⟩
    exact run_append_of_nil w base t ty 27 i0 1 ht hi v l.length (encU l) hown c
  | some ad =>
    have hcells : ∀ j u, (encU m)[j]? = some u → w.cell? (ad.add j) = some u := by
      intro j u hu
      have hj : j < m.length := by
        rcases Nat.lt_or_ge j m.length with h | h
        · exact h
        · rw [List.getElem?_eq_none (by simpa [encU] using h)] at hu; cases hu
      obtain ⟨b, off, hA', hb, hc⟩ := hR (by omega)
      injection hA' with hA'
      subst hA'
      have h1 := hc j hj 0 _ rfl
      rw [Addr.add_lit]
      rw [encU_get hj] at hu
      injection hu with hu
      subst hu
      simpa using h1
    obtain ⟨v', w', hrun, h2, h3, _, h5⟩ := run_append_own_at (P := Try.prog) w base t ty 27 i0 _ 1 8 ht hi hz0 hz1 hz2 rfl (by omega) v l.length (encU l) hown ad m.length c (encU m) (by simp [encU]) hcells (encU_one m) (by unfold maxLen; omega) (by omega) hbase
    refine ⟨v', w', hrun, ?_, h3, h5⟩
    unfold OwnU
    rw [List.length_append, show encU (l ++ m) = encU l ++ encU m by simp [encU]]
    exact h2
set_option maxRecDepth 100000 in
theorem wpList_append_us {ops : Array Oper} {rest : List Oper} {o : Oper} {a : Act} {w : World} {Q : Exit → Act → World → Prop} (hgd : o.guard = none) (s x : Operand) (t t' : TypeId)
    (ho : o.op = .call { callee := .builtin .append, args := #[s, x], argTypes := #[t, t'] }) (ht : Try.prog.underlying t = some (.slice 27)) (ht' : Try.prog.underlying t' = some (.slice 27)) (base : Nat) (v : Value) (l : List Nat) (hs : a.eval s = v) (hown : OwnU w base v l)
    (u : Value) (m : List Nat) (hx : a.eval x = u) (hS : Su w u m) (hl : l.length + m.length ≤ 1000000) (hbase : base ≤ w.heap.size)
    (h : ∀ v' w', OwnU w' base v' (l ++ m) → w.grownBy w' v.ownBlock → (v'.ownBlock = v.ownBlock ∨ v'.ownBlock = some w.heap.size) → wpList Try.prog ops Q rest (a.put o.dst v') w') :
    wpList Try.prog ops Q (o :: rest) a w := by
  obtain ⟨v', w', hrun, h2, h3, h4⟩ := run_append_us w t o.type ht base v l hown u m hS hl hbase
  obtain ⟨A0, c0, rfl, _⟩ := own_any hown
  refine wpList_plain hgd fun _ hK => ?_
  unfold Oper.wp execOp
  simp only [ho, resolve, invoke, builtin, Sem.run_bind, Sem.run_pure, Result.andThen_ok, List.map_toArray, List.map_cons, List.map_nil, hs, hx, append_types t t' o.type _ _ ht ht' A0 _ c0 u w, hrun]
  exact hK _ _ (h v' w' h2 h3 h4)
/-- one word in a new row -/
theorem Su.one (w : World) (x : Nat) : Su (w.alloc (.cells #[.int .u64 (x : Int)] 27)) (.slice (some ⟨w.heap.size, 0, none⟩) 1 1) [x] :=
  ⟨_, 1, rfl, Nat.le_refl _, by omega, (fun h => by cases h), fun _ => ⟨_, 0, rfl, by simp, fun k hk j u hu => by
    obtain rfl : k = 0 := by simpa using hk
    match j, hu with
    | 0, hu => simp [uC, nth] at hu; subst hu; simp⟩⟩
theorem eq_nth (l m : List Nat) : (decide (l.length = m.length) && !anyOf (fun k => nth l k != nth m k) l.length) = decide (l = m) := by
  rw [Bool.eq_iff_iff, Bool.and_eq_true, decide_eq_true_eq, decide_eq_true_eq, Bool.not_eq_true', anyOf_false]
  constructor
  · rintro ⟨hl, h⟩
    apply List.ext_getElem hl
    intro k h1 h2
    have := h k h1
    simpa [nth_get h1, nth_get h2] using this
  · rintro rfl
    exact ⟨rfl, fun k hk => by simp⟩
set_option maxHeartbeats 800000 in
theorem equalH_any (A B : Option Addr) (n c m d : Nat) (T U : Nat → Nat) (w : World) (hn : n ≤ 9223372036854775807) (hm : m ≤ 9223372036854775807) (hT : Rd w 1 (uC T) A n) (hU : Rd w 1 (uC U) B m) :
    Calls Try.prog 20 #[.slice A n c, .slice B m d] w fun e w' => e = .returned (.bool (decide (n = m) && !anyOf (fun k => T k != U k) n)) ∧ ∃ q, w' = w.drewN q := by
  have HT := Lib.hid hT
  have HU := Lib.hid hU
  clear hT hU
  by_cases hnm : n = m
  · subst hnm
    have hne : ((n : Int) != (n : Int)) = false := by simp
    go_enter Try.func20, Try.ntmps20
    go_wp2_with fail
    go_loopw [5, 13] (fun _ i wr => ∃ k q : Nat, k ≤ n ∧ i = .int .i64 k ∧ (∀ j, j < k → (T j != U j) = false) ∧ wr = w.drewN q) (fun _ i _ => n - (intOf i).toNat)
    case atStart => exact ⟨0, 0, Nat.zero_le _, rfl, fun j hj => by omega, rfl⟩
    case round =>
      obtain ⟨k, q, hk, rfl, hlow, rfl⟩ := hrel
      have HL := Lib.hid hlow
      clear hlow
      by_cases hlt : k < n
      · obtain ⟨b, off, rfl, hb, hcell⟩ := HT.out (by omega)
        obtain ⟨b2, off2, rfl, hb2, hcell2⟩ := HU.out (by omega)
        have c0 : (w.drewN q).cell? ⟨b, off + k, none⟩ = some (.int .u64 (T k : Int)) := by simpa using hcell k hlt 0 _ rfl
        have c1 : (w.drewN q).cell? ⟨b2, off2 + k, none⟩ = some (.int .u64 (U k : Int)) := by simpa using hcell2 k hlt 0 _ rfl
        have i1 : (0 : Int) ≤ (k : Int) := by omega
        have i2 : (k : Int) < (n : Int) := by omega
        clear hcell hcell2
        generalize hW : w.drewN q = wx at *
        have HW := Lib.hid hW
        clear hW
        by_cases hp : (T k != U k) = true
        · have hpi : ((T k : Int) != (U k : Int)) = true := bne_iff_ne.2 (by have := bne_iff_ne.1 hp; omega)
          have hpn : (T k == U k) = false := by simpa using hp
          go_wp2_with fail
          go_quiet (fail)
          go_wp2_with fail
          go_ret
          refine ⟨ret_bool ?_, q + nq, by rw [← HW.out, drewN_drewN]⟩
          have h1 : anyOf (fun k => T k != U k) n = true := anyOf_true.2 ⟨k, hlt, hp⟩
          simp only [h1]
          simp
        · have hp' : (T k != U k) = false := by simpa using hp
          have hpe : T k = U k := by simpa using hp
          have hpi : ((T k : Int) != (U k : Int)) = false := by simp [hpe]
          clear hp hpe
          go_wp2_with fail
          go_quiet (fail)
          go_wp2_with fail
          go_roundw
          case rel =>
            refine ⟨k + 1, q + nq, by omega, by go_num, fun j hj => ?_, by rw [← HW.out, drewN_drewN]⟩
            by_cases e : j = k
            · rw [e]; exact hp'
            · exact HL.out j (by omega)
          case measure => simp [intOf]; omega
      · go_wp2_with fail
        go_ret
        have h1 : anyOf (fun k => T k != U k) n = false := anyOf_false.2 (fun j hj => HL.out j (by omega))
        exact ⟨ret_bool (by simp only [h1]; simp), q, rfl⟩
  · have hne : ((n : Int) != (m : Int)) = true := by simp; omega
    have H0 := Lib.hid hnm
    clear hnm
    go_enter Try.func20, Try.ntmps20
    go_wp2_with fail
    go_ret
    exact ⟨ret_bool (by simp [H0.out]), 0, rfl⟩
/-- two rows of words: equal just if they hold the same -/
theorem equalH_any_l (A B : Option Addr) (c d : Nat) (l m : List Nat) (w : World) (hS : Su w (.slice A l.length c) l) (hS' : Su w (.slice B m.length d) m) :
    Calls Try.prog 20 #[.slice A l.length c, .slice B m.length d] w fun e w' => e = .returned (.bool (decide (l = m))) ∧ ∃ q, w' = w.drewN q := by
  obtain ⟨A0, c0, e, h1, h2, h3, h4⟩ := hS
  injection e with e1 _ e3
  subst e1 e3
  obtain ⟨B0, d0, e, g1, g2, g3, g4⟩ := hS'
  injection e with e1 _ e3
  subst e1 e3
  refine (equalH_any A B l.length c m.length d (nth l) (nth m) w (by omega) (by omega) h4 g4).mono ?_
  rintro e w' ⟨rfl, hq⟩
  exact ⟨ret_bool (eq_nth l m), hq⟩
set_option maxHeartbeats 800000 in
theorem equalU_any (A B : Option Addr) (n c m d : Nat) (T U : Nat → Nat) (w : World) (hn : n ≤ 9223372036854775807) (hm : m ≤ 9223372036854775807) (hT : Rd w 1 (uC T) A n) (hU : Rd w 1 (uC U) B m) :
    Calls Try.prog 12 #[.slice A n c, .slice B m d] w fun e w' => e = .returned (.bool (decide (n = m) && !anyOf (fun k => T k != U k) n)) ∧ ∃ q, w' = w.drewN q := by
  have HT := Lib.hid hT
  have HU := Lib.hid hU
  clear hT hU
  by_cases hnm : n = m
  · subst hnm
    have hne : ((n : Int) != (n : Int)) = false := by simp
    go_enter Try.func12, Try.ntmps12
    go_wp2_with fail
    go_loopw [5, 13] (fun _ i wr => ∃ k q : Nat, k ≤ n ∧ i = .int .i64 k ∧ (∀ j, j < k → (T j != U j) = false) ∧ wr = w.drewN q) (fun _ i _ => n - (intOf i).toNat)
    case atStart => exact ⟨0, 0, Nat.zero_le _, rfl, fun j hj => by omega, rfl⟩
    case round =>
      obtain ⟨k, q, hk, rfl, hlow, rfl⟩ := hrel
      have HL := Lib.hid hlow
      clear hlow
      by_cases hlt : k < n
      · obtain ⟨b, off, rfl, hb, hcell⟩ := HT.out (by omega)
        obtain ⟨b2, off2, rfl, hb2, hcell2⟩ := HU.out (by omega)
        have c0 : (w.drewN q).cell? ⟨b, off + k, none⟩ = some (.int .u64 (T k : Int)) := by simpa using hcell k hlt 0 _ rfl
        have c1 : (w.drewN q).cell? ⟨b2, off2 + k, none⟩ = some (.int .u64 (U k : Int)) := by simpa using hcell2 k hlt 0 _ rfl
        have i1 : (0 : Int) ≤ (k : Int) := by omega
        have i2 : (k : Int) < (n : Int) := by omega
        clear hcell hcell2
        generalize hW : w.drewN q = wx at *
        have HW := Lib.hid hW
        clear hW
        by_cases hp : (T k != U k) = true
        · have hpi : ((T k : Int) != (U k : Int)) = true := bne_iff_ne.2 (by have := bne_iff_ne.1 hp; omega)
          have hpn : (T k == U k) = false := by simpa using hp
          go_wp2_with fail
          go_quiet (fail)
          go_wp2_with fail
          go_ret
          refine ⟨ret_bool ?_, q + nq, by rw [← HW.out, drewN_drewN]⟩
          have h1 : anyOf (fun k => T k != U k) n = true := anyOf_true.2 ⟨k, hlt, hp⟩
          simp only [h1]
          simp
        · have hp' : (T k != U k) = false := by simpa using hp
          have hpe : T k = U k := by simpa using hp
          have hpi : ((T k : Int) != (U k : Int)) = false := by simp [hpe]
          clear hp hpe
          go_wp2_with fail
          go_quiet (fail)
          go_wp2_with fail
          go_roundw
          case rel =>
            refine ⟨k + 1, q + nq, by omega, by go_num, fun j hj => ?_, by rw [← HW.out, drewN_drewN]⟩
            by_cases e : j = k
            · rw [e]; exact hp'
            · exact HL.out j (by omega)
          case measure => simp [intOf]; omega
      · go_wp2_with fail
        go_ret
        have h1 : anyOf (fun k => T k != U k) n = false := anyOf_false.2 (fun j hj => HL.out j (by omega))
        exact ⟨ret_bool (by simp only [h1]; simp), q, rfl⟩
  · have hne : ((n : Int) != (m : Int)) = true := by simp; omega
    have H0 := Lib.hid hnm
    clear hnm
    go_enter Try.func12, Try.ntmps12
    go_wp2_with fail
    go_ret
    exact ⟨ret_bool (by simp [H0.out]), 0, rfl⟩
/-- two rows of words: equal just if they hold the same -/
theorem equalU_any_l (A B : Option Addr) (c d : Nat) (l m : List Nat) (w : World) (hS : Su w (.slice A l.length c) l) (hS' : Su w (.slice B m.length d) m) :
    Calls Try.prog 12 #[.slice A l.length c, .slice B m.length d] w fun e w' => e = .returned (.bool (decide (l = m))) ∧ ∃ q, w' = w.drewN q := by
  obtain ⟨A0, c0, e, h1, h2, h3, h4⟩ := hS
  injection e with e1 _ e3
  subst e1 e3
  obtain ⟨B0, d0, e, g1, g2, g3, g4⟩ := hS'
  injection e with e1 _ e3
  subst e1 e3
  refine (equalU_any A B l.length c m.length d (nth l) (nth m) w (by omega) (by omega) h4 g4).mono ?_
  rintro e w' ⟨rfl, hq⟩
  exact ⟨ret_bool (eq_nth l m), hq⟩
theorem info_cloneHr : (Try.prog.info? 27).map (fun i => (i.zero, i.size, i.bytes)) = some (some (.int .u64 0), 1, 8) := by kernel_rfl
set_option maxRecDepth 100000 in
set_option maxHeartbeats 400000 in
theorem cloneHr (A : Option Addr) (n c : Nat) (g : Nat → List Value) (w : World) (hR : Rd w 1 g A n) (hl : ∀ k, (g k).length = 1) (h1 : ∀ k u, u ∈ g k → u.oneCell' = true)
    (hA : A = none → n = 0) (hn : n * 8 ≤ 140737488355328) :
    Calls Try.prog 25 #[.slice A n c] w (ClonePost 27 1 n (flatC g n) w) := by
  obtain ⟨i0, hi, hz0, hz1, hz2⟩ := info_parts info_cloneHr
  have hnil := fun (w : World) => Lib.run_eql_slice_nil (P := Try.prog) w
  cases A with
  | none =>
    obtain rfl := hA rfl
    clear hR hl h1 hA hi hz0 hz1 hz2 hn
    go_enter Try.func25, Try.ntmps25
    go_wp2_with fail
    go_ret
    exact ⟨_, rfl, World.ownsRow_nil _ _ _ _, Below.refl _ _⟩
  | some a =>
    have hn0 : ∀ (o : Obj) j u, (flatC g n)[j]? = some u → (w.alloc o).cell? (a.add j) = some u := fun o j u hu => by
      obtain ⟨q1, q2, q3⟩ := flatC_at hl (by omega) hu
      obtain ⟨b, off, hab, hb, hc⟩ := hR (by omega)
      injection hab with hab
      subst hab
      have e : (⟨b, off, none⟩ : Addr).add j = ⟨b, off + j / 1 * 1 + j % 1, none⟩ := by
        have := Nat.div_add_mod' j 1
        unfold Addr.add
        split
        · rename_i h; subst h; simp
        · simp; omega
      rw [e, World.cell?_alloc_lt _ _ _ hb]
      exact hc _ q1 _ _ q3
    have HN := Lib.hid hn0
    have H1 := Lib.hid h1
    have HL := Lib.hid (flatC_length hl n)
    clear hR hl h1 hA hn0
    go_enter Try.func25, Try.ntmps25
    go_wp2_with (at_builtin; refine wpList_append_own _ rfl _ _ 23 rfl w.heap.size 27 i0 _ 1 8 Try.underlying23 hi hz0 hz1 hz2 rfl (by omega) (.slice (some ⟨w.heap.size, 0, none⟩) 0 0) 0 [] rfl (World.ownsRow_lit w #[] 0 (Nat.le_refl _) (by simp [maxLen]) rfl) a n c (flatC g n) rfl HL.out (HN.out _) (fun u hu => by obtain ⟨k, _, hk⟩ := flatC_mem hu; exact H1.out k u hk) (by unfold maxLen; omega) (by omega) (by simp) ?_; intro v1 w1 hown hgrow _; simp only [Nat.zero_add, List.nil_append] at hown)
    go_ret
    exact ⟨v1, rfl, hown, ((Below.refl _ _).alloc (Nat.le_refl _) _).grown hgrow (by simp) (by simp [Value.ownBlock])⟩

/-- a copy of a heap -/
theorem cloneH_any (A : Option Addr) (c : Nat) (l : List Nat) (w : World) (hS : Su w (.slice A l.length c) l) (hl : l.length ≤ 17592186044416) :
    Calls Try.prog 25 #[.slice A l.length c] w fun e w' => ∃ A' c', e = .returned (.slice A' l.length c') ∧ OwnU w' w.heap.size (.slice A' l.length c') l ∧ Below w.heap.size w w' := by
  obtain ⟨A0, c0, e, h1, h2, h3, h4⟩ := hS
  injection e with e1 e2 e3
  subst e1 e3
  refine (cloneHr A l.length c (uC (nth l)) w h4 (uC_len _) (uC_one _) h3 (by omega)).mono ?_
  rintro e w1 ⟨v1, rfl, hown1, hb1⟩
  rw [flatC_nth] at hown1
  obtain ⟨A1, c1, rfl, _, _, _⟩ := own_any hown1
  exact ⟨A1, c1, rfl, hown1, hb1⟩
end Go.Proofs.Ytkdbnkkdohkhjaa
