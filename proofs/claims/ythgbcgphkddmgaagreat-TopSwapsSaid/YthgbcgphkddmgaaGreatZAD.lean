/- Tables of names: maps from strings to rows, over four names. A row of the call's own stays where other memory changes. Rows of numbers: words, one number more, and the contracts of slices.Index, Contains, Equal and Clone over ints. Calls of two and of three arguments at a step of a region that draws its order. Cells moved within rows: copy, clear and append over elements of several cells; what a row of the call's own holds then. -/
import Derived.Test.YthgbcgphkddmgaaGreatZAC
import Derived.Maps.OwnSet
import Derived.Maps.OwnOps
import Derived.Maps.Views
import Derived.Maps.RangeWalk
import Derived.Sort.KeysCollected
import Derived.StringKeys
import Derived.Deep.QuietTactic
import Derived.BigQuiet
import Derived.Deep.RegionHeld3
import Derived.Lib.AppendZerosOnto
import Derived.Lib.Overlaps
import Derived.Laws.Externs
import Derived.Laws.IdiomCopy
import Derived.Laws.CopyRow
import Derived.Deep.RegionLaw
namespace Go.Proofs.YthgbcgphkddmgaaGreat.Nm
open Go.RowKit Go.Maps
set_option linter.unusedVariables false
/-- the four names -/
def nmB : Nat → List UInt8
  | 0 => [97]
  | 1 => [98]
  | 2 => [99]
  | _ => [111, 110, 101]
def nmS (i : Nat) : ByteArray := ⟨(nmB i).toArray⟩
structure RW where
  ref : Int
  cnt : Int
  node : Int
def rwV (i : Nat) (r : RW) : Value := .agg #[.string (nmS i), .int .i64 r.ref, .int .i64 r.cnt, .int .i64 r.node]
def rw0 : Value := .agg #[.string ⟨#[]⟩, .int .i64 0, .int .i64 0, .int .i64 0]
def atV (g : Nat → Option RW) (i : Nat) : Value := match g i with
  | some r => rwV i r
  | none => rw0
abbrev kS (i : Nat) : Lit := .string (nmB i)
def cntT (g : Nat → Option RW) : Nat := ((List.range 4).filter fun i => (g i).isSome).length
/-- an element stands for itself -/
def anyElem (v : Value) : Option (DataW Value × List MemPlace) := some (.held v, [])
theorem anyElem_inv {v : Value} {d : DataW Value} {ps : List MemPlace} (h : anyElem v = some (d, ps)) : d = .held v := by
  unfold anyElem at h
  injection h with h
  injection h with h1 h2
  exact h1.symm
theorem lawS : Keyed Tryz.prog 9 := string_keyed Tryz.underlying9
theorem nm_size (i : Nat) : (nmS i).size ≤ 3 := by
  unfold nmS nmB
  split <;> decide
theorem keyN (i : Nat) : keyOf Tryz.prog 9 (.string (nmS i)) = some (kS i) :=
  Go.WideMaps.keyOf_string_mk (P := Tryz.prog) Tryz.underlying9 (s := nmS i) (by have := nm_size i; unfold maxLen; omega)
theorem nmB_inj : ∀ i, i < 4 → ∀ j, j < 4 → nmB i = nmB j → i = j := by decide
/-- block b holds the table g -/
def OwnT (w : World) (b : Nat) (g : Nat → Option RW) : Prop :=
  ∃ D : DataW Value, w.ownsMap Tryz.prog 9 anyElem b (Maps.size D) D ∧ Maps.size D = cntT g ∧ (∀ i, i < 4 → has D (kS i) = (g i).isSome ∧ D.atKey (kS i) (.held rw0) = .held (atV g i)) ∧ ∀ s, has D (.string s) = true → ∃ i, i < 4 ∧ s = nmB i
theorem cnt_none : cntT (fun _ => none) = 0 := by decide
theorem cnt_le (g : Nat → Option RW) : cntT g ≤ 4 := by
  have := List.length_filter_le (fun i => (g i).isSome) (List.range 4)
  simpa [cntT] using this
theorem OwnT.made (w : World) : OwnT (w.alloc (.map #[] 0)) w.heap.size (fun _ => none) :=
  ⟨.map [], World.ownsMap_made w _ _ _, by rw [cnt_none]; rfl, fun i hi => ⟨rfl, rfl⟩, fun s h => by cases h⟩
theorem OwnT.fr {S : Nat → Prop} {w w' : World} {b : Nat} {g : Nat → Option RW} (h : OwnT w b g) (hf : Fr S w w') (hn : ¬ S b) : OwnT w' b g := by
  obtain ⟨D, h1, h2⟩ := h
  exact ⟨D, hf.map h1 hn, h2⟩
theorem OwnT.lt {w : World} {b : Nat} {g : Nat → Option RW} (h : OwnT w b g) : b < w.heap.size := by obtain ⟨D, h1, _⟩ := h; exact h1.lt
theorem zeroR : ∀ w, (zeroValue 158).run Tryz.prog w = .ok rw0 w := fun w => by kernel_rfl
set_option maxRecDepth 100000 in
theorem OwnT.look {w : World} {b : Nat} {g : Nat → Option RW} (h : OwnT w b g) {i : Nat} (hi : i < 4) : (Instr.lookup 133 (.map (some b)) (.string (nmS i)) false).run Tryz.prog w = .ok (atV g i) w := by
  obtain ⟨D, h1, _, h2, _⟩ := h
  obtain ⟨v, ps, hrun, hv⟩ := h1.lookup lawS Tryz.underlying133 (zeroR w) (show anyElem rw0 = some (.held rw0, []) from rfl) (keyN i)
  rw [(h2 i hi).2] at hv
  have := anyElem_inv hv
  injection this with this
  rw [hrun, this]
set_option maxRecDepth 100000 in
theorem OwnT.look_ok {w : World} {b : Nat} {g : Nat → Option RW} (h : OwnT w b g) {i : Nat} (hi : i < 4) : (Instr.lookup 133 (.map (some b)) (.string (nmS i)) true).run Tryz.prog w = .ok (.tuple #[atV g i, .bool (g i).isSome]) w := by
  obtain ⟨D, h1, _, h2, _⟩ := h
  obtain ⟨v, ps, hrun, hv⟩ := h1.look_ok lawS Tryz.underlying133 (zeroR w) (show anyElem rw0 = some (.held rw0, []) from rfl) (keyN i)
  rw [(h2 i hi).2] at hv
  have := anyElem_inv hv
  injection this with this
  rw [hrun, (h2 i hi).1, this]
set_option maxRecDepth 100000 in
theorem OwnT.len {w : World} {b : Nat} {g : Nat → Option RW} (h : OwnT w b g) (ty : TypeId) : (Builtin.len_ #[133] ty #[.map (some b)]).run Tryz.prog w = .ok (.int .i64 (cntT g : Int)) w := by
  obtain ⟨D, h1, hs, _⟩ := h
  rw [h1.len Tryz.underlying133 ty, hs]
def updT (g : Nat → Option RW) (i : Nat) (r : RW) : Nat → Option RW := fun j => if j = i then some r else g j
theorem cnt_upd (g : Nat → Option RW) {i : Nat} (hi : i < 4) (r : RW) : cntT (updT g i r) = if (g i).isSome then cntT g else cntT g + 1 := by
  have e : ∀ g : Nat → Option RW, cntT g = (if (g 0).isSome then 1 else 0) + (if (g 1).isSome then 1 else 0) + (if (g 2).isSome then 1 else 0) + (if (g 3).isSome then 1 else 0) := fun g => by
    simp only [cntT, show List.range 4 = [0, 1, 2, 3] from rfl, List.filter_cons, List.filter_nil]
    cases g 0 <;> cases g 1 <;> cases g 2 <;> cases g 3 <;> simp
  rw [e, e g]
  have hk : i = 0 ∨ i = 1 ∨ i = 2 ∨ i = 3 := by omega
  unfold updT
  rcases hk with rfl | rfl | rfl | rfl <;> (cases h0 : g 0 <;> cases h1 : g 1 <;> cases h2 : g 2 <;> cases h3 : g 3 <;> simp)
theorem own_size {w : World} {b n : Nat} {D : DataW Value} (h : w.ownsMap Tryz.prog 9 anyElem b n D) : w.ownsMap Tryz.prog 9 anyElem b (Maps.size D) D := by
  obtain ⟨es, clock, hb, F, hs, rfl⟩ := h
  refine ⟨es, clock, hb, F, ?_, rfl⟩
  simp [Maps.size, length_sorted]
set_option maxRecDepth 100000 in
theorem OwnT.store {w : World} {b : Nat} {g : Nat → Option RW} (h : OwnT w b g) {i : Nat} (hi : i < 4) (r : RW) :
    ∃ w', (Instr.mapUpdate 133 (.map (some b)) (.string (nmS i)) (rwV i r)).run Tryz.prog w = .ok () w' ∧ OwnT w' b (updT g i r) ∧ w.grownBy w' (some b) := by
  obtain ⟨D, h1, hs, h2, h3⟩ := h
  obtain ⟨w', hrun, r1, r2⟩ := h1.update lawS Tryz.underlying133 (by have := cnt_le g; unfold maxLen; omega) (keyN i) (show anyElem (rwV i r) = some (.held (rwV i r), []) from rfl)
  have hKL : WideAt.IsKeyLit (kS i) := lawS.key (keyN i)
  refine ⟨w', hrun, ⟨_, own_size r1, ?_, fun j hj => ?_, fun s hsn => ?_⟩, r2⟩
  · rw [size_put (h1.tidy lawS), (h2 i hi).1, hs, cnt_upd g hi]
  · by_cases e : j = i
    · subst e
      rw [has_put_same h1.isMap hKL, atKey_put_same h1.isMap hKL]
      simp [updT, atV]
    · have hne : kS j ≠ kS i := fun hh => e (nmB_inj j hj i hi (by injection hh))
      rw [has_put_other hne, atKey_put_other hne, (h2 j hj).1, (h2 j hj).2]
      simp [updT, atV, e]
  · by_cases e : (Lit.string s) = kS i
    · exact ⟨i, hi, by injection e⟩
    · rw [has_put_other e] at hsn
      exact h3 s hsn
/-- the names that are there, in order -/
def keysT (g : Nat → Option RW) : List (List UInt8) := ((List.range 4).filter fun i => (g i).isSome).map nmB
theorem keys_sorted (g : Nat → Option RW) : (keysT g).Pairwise (fun a b => leB a b = true) := by
  unfold keysT
  simp only [show List.range 4 = [0, 1, 2, 3] from rfl, List.filter_cons, List.filter_nil]
  cases g 0 <;> cases g 1 <;> cases g 2 <;> cases g 3 <;> simp (decide := true) [nmB]
theorem keys_nodup (g : Nat → Option RW) : (keysT g).Nodup := by
  unfold keysT
  simp only [show List.range 4 = [0, 1, 2, 3] from rfl, List.filter_cons, List.filter_nil]
  cases g 0 <;> cases g 1 <;> cases g 2 <;> cases g 3 <;> simp (decide := true) [nmB]
theorem OwnT.keys {w : World} {b : Nat} {g : Nat → Option RW} (h : OwnT w b g) : ∃ D : DataW Value, w.ownsMap Tryz.prog 9 anyElem b (Maps.size D) D ∧ Maps.size D ≤ 4 ∧ ∀ ss : List (List UInt8), ss.Perm (strKeys D) → ss.mergeSort leB = keysT g := by
  obtain ⟨D, h1, hs, h2, h3⟩ := h
  refine ⟨D, h1, by have := cnt_le g; omega, fun ss hp => ?_⟩
  have hk : (keysT g).Perm (strKeys D) := by
    obtain ⟨es, rfl, hpw⟩ := h1.tidy lawS
    obtain ⟨es', hD', hko⟩ := h1.keysOf
    obtain rfl : es = es' := by simpa using hD'
    refine perm_strKeys hpw (fun p hp => ?_) (keys_nodup g) (fun x => ?_)
    · obtain ⟨v, hv⟩ := hko p hp
      obtain ⟨x, _, hx, _⟩ := Maps.keyOf_str Tryz.underlying9 hv
      exact ⟨x, hx⟩
    · unfold keysT
      simp only [List.mem_map, List.mem_filter, List.mem_range]
      constructor
      · rintro ⟨i, ⟨hi, hg⟩, rfl⟩
        rw [(h2 i hi).1]
        exact hg
      · intro hx
        obtain ⟨i, hi, rfl⟩ := h3 x hx
        rw [(h2 i hi).1] at hx
        exact ⟨i, ⟨hi, hx⟩, rfl⟩
  rw [mergeSort_of_perm (hp.trans hk.symm)]
  exact List.mergeSort_of_pairwise (keys_sorted g)
end Go.Proofs.YthgbcgphkddmgaaGreat.Nm
namespace Go.Proofs.YthgbcgphkddmgaaGreat
open Go.RowKit
theorem own_keep {w w' : World} {base : Nat} {e : TypeId} {sz n : Nat} {v : Value} {xs : List Value} (h : w.ownsRow base e sz v n xs) (hb : Below w.heap.size w w') : w'.ownsRow base e sz v n xs := by
  refine h.kept (row := none) ⟨hb.os, hb.tape, hb.output, hb.size, fun k hk _ => hb.block k hk⟩ ?_
  cases hv : v.ownBlock with
  | none => exact .inl rfl
  | some g => exact .inr (by simp)
theorem own_set {w : World} {base : Nat} {e : TypeId} {sz n : Nat} {v : Value} {xs : List Value} {b o : Nat} {u : Value} (h : w.ownsRow base e sz v n xs) (hb : b < base) : (w.setCell ⟨b, o, none⟩ u).ownsRow base e sz v n xs := by
  refine h.kept (row := some b) ⟨rfl, rfl, rfl, by simp, fun k _ hk => heap_setCell_other w ⟨b, o, none⟩ k u (fun e => hk (by simp [e]))⟩ ?_
  cases hv : v.ownBlock with
  | none => exact .inl rfl
  | some g =>
    have := (h.lt g hv).1
    refine .inr ?_
    intro hh
    injection hh with hh
    omega
end Go.Proofs.YthgbcgphkddmgaaGreat
namespace Go.Proofs.YthgbcgphkddmgaaGreat
open Go.RowKit
set_option linter.unusedVariables false
def tmC (T : Nat → Int) : Nat → List Value := fun k => [.int .i64 (T k)]
theorem tmC_len (T : Nat → Int) : ∀ k, (tmC T k).length = 1 := fun _ => rfl
theorem tmC_one (T : Nat → Int) : ∀ k u, u ∈ tmC T k → u.oneCell' = true := fun k u h => by
  simp [tmC] at h
  subst h; rfl
/-- a row of the call's own that holds the numbers l -/
def encI (l : List Int) : List Value := l.map (Value.int .i64)
def OwnI (w : World) (base : Nat) (v : Value) (l : List Int) : Prop := w.ownsRow base 3 1 v l.length (encI l)
def fl (T : Nat → Int) (m : Nat) : List Int := (List.range m).map T
theorem fl_succ (T : Nat → Int) (m : Nat) : fl T (m + 1) = fl T m ++ [T m] := by simp [fl, List.range_succ]
theorem fl_len (T : Nat → Int) (m : Nat) : (fl T m).length = m := by simp [fl]
theorem fl_get (T : Nat → Int) {m j : Nat} (h : j < m) : (fl T m)[j]? = some (T j) := by simp [fl, h]
theorem flatC_fl (T : Nat → Int) (m : Nat) : flatC (tmC T) m = encI (fl T m) := by
  induction m with
  | zero => rfl
  | succ m ih => rw [flatC, ih, fl_succ]; simp [encI, tmC]
theorem infoI : (Tryz.prog.info? 3).map (fun i => (i.zero, i.size, i.bytes)) = some (some (.int .i64 0), 1, 8) := by kernel_rfl
theorem OwnI.alloc {w : World} {base : Nat} {v : Value} {l : List Int} (h : OwnI w base v l) (o : Obj) : OwnI (w.alloc o) base v l := World.ownsRow.alloc h o
theorem OwnI.grown {w w1 : World} {base : Nat} {v : Value} {l : List Int} {row : Option Nat} (h : OwnI w base v l) (hg : w.grownBy w1 row) (hne : ∀ k, v.ownBlock = some k → row ≠ some k) : OwnI w1 base v l := own_grown h hg hne
theorem OwnI.below {w w1 : World} {base : Nat} {v : Value} {l : List Int} (h : OwnI w base v l) (hb : Below w.heap.size w w1) : OwnI w1 base v l := own_keep h hb
theorem OwnI.mono {w : World} {base base' : Nat} {v : Value} {l : List Int} (h : OwnI w base v l) (hb : base' ≤ base) : OwnI w base' v l := own_mono h hb
theorem OwnI.blk {w : World} {base : Nat} {v : Value} {l : List Int} (h : OwnI w base v l) : ∀ k, v.ownBlock = some k → base ≤ k ∧ k < w.heap.size := World.ownsRow.lt h
theorem OwnI.nil (w : World) (base : Nat) : OwnI w base (.slice none 0 0) [] := World.ownsRow_nil _ _ _ _
/-- one number more -/
theorem wpList_append_int {ops : Array Oper} {rest : List Oper} {o : Oper} {a : Act} {w : World} {Q : Exit → Act → World → Prop} (hgd : o.guard = none) (s x : Operand)
    (ho : o.op = .call { callee := .builtin .append, args := #[s, x], argTypes := #[31, 31] }) (base : Nat) (v : Value) (l : List Int) (hs : a.eval s = v) (hown : OwnI w base v l)
    (H : Nat) (hH : w.heap.size = H) (y : Int) (hx : a.eval x = .slice (some ⟨H, 0, none⟩) 1 1) (hl : l.length ≤ 1000000) (hbase : base ≤ w.heap.size)
    (h : ∀ v' w', OwnI w' base v' (l ++ [y]) → w.grownBy w' v.ownBlock → (v'.ownBlock = v.ownBlock ∨ v'.ownBlock = some (H + 1)) → wpList Tryz.prog ops Q rest (a.put o.dst v') w') :
    wpList Tryz.prog ops Q (o :: rest) a (w.alloc (.cells #[.int .i64 y] 3)) := by
  obtain ⟨i0, hi, hz0, hz1, hz2⟩ := info_parts infoI
  subst hH
  refine wpList_append_own_at _ hgd s x 31 ho base 3 i0 (.int .i64 0) 1 8 Tryz.underlying31 hi hz0 hz1 hz2 rfl (by decide) v l.length (encI l) hs (hown.alloc _) ⟨w.heap.size, 0, none⟩ 1 1 [.int .i64 y] hx rfl (cell_one_new _ _ _) ?_ ?_ ?_ ?_ ?_
  · intro u hu; simp at hu; subst hu; rfl
  · unfold maxLen; omega
  · omega
  · simp; omega
  · intro v' w' h1 h2 _ h4
    refine h v' w' ?_ (grown_step (World.grownBy_alloc w _ _) h2 (.inl rfl)) (by simpa using h4)
    unfold OwnI encI
    rw [List.length_append, List.map_append]
    exact h1
def lst (l : List Int) : Nat → Int := fun k => l.getD k 0
theorem flatC_lst (l : List Int) : flatC (tmC (lst l)) l.length = encI l := by
  rw [flatC_fl]
  congr 1
  apply List.ext_getElem?
  intro j
  by_cases hj : j < l.length
  · rw [fl_get _ hj, List.getElem?_eq_getElem hj]; simp [lst, hj]
  · rw [List.getElem?_eq_none (by rw [fl_len]; omega), List.getElem?_eq_none (by omega)]
theorem OwnI.rd {w : World} {base n c : Nat} {A : Option Addr} {l : List Int} (h : OwnI w base (.slice A n c) l) : Rd w 1 (tmC (lst l)) A l.length := by
  obtain ⟨A', c', hv, _⟩ := own_any h
  injection hv with h1 h2 h3
  subst h1 h2 h3
  refine Rd.of_own (tmC_len _) (c := c) (base := base) (e := 3) ?_
  rw [flatC_lst]
  exact h
theorem any_lst (l : List Int) (x : Int) : anyOf (fun k => x == lst l k) l.length = decide (x ∈ l) := by
  rw [Bool.eq_iff_iff, anyOf_true, decide_eq_true_eq, List.mem_iff_getElem?]
  constructor
  · rintro ⟨k, hk, h⟩
    refine ⟨k, ?_⟩
    simp [lst, hk] at h
    rw [List.getElem?_eq_getElem hk, h]
  · rintro ⟨k, h⟩
    obtain ⟨hk, h'⟩ := List.getElem?_eq_some_iff.1 h
    exact ⟨k, hk, by simp [lst, hk, h']⟩
set_option maxHeartbeats 400000 in
theorem indexI_any (A : Option Addr) (n c : Nat) (T : Nat → Int) (x : Int) (w : World) (hn : n ≤ 9223372036854775807) (hT : Rd w 1 (tmC T) A n) :
    Calls Tryz.prog 140 #[.slice A n c, .int .i64 x] w fun e w' => e = .returned (.int .i64 (ixOf (fun k => x == T k) n)) ∧ w = w' := by
  have HT := Lib.hid hT
  clear hT
  go_enter Tryz.func140, Tryz.ntmps140
  go_wp2_with fail
  go_loop [5, 8] (fun _ i => ∃ k : Nat, k ≤ n ∧ i = .int .i64 k ∧ (∀ j, j < k → (x == T j) = false)) (fun _ i => n - (intOf i).toNat)
  case atStart => exact ⟨0, Nat.zero_le _, rfl, fun j hj => by omega⟩
  case round =>
    obtain ⟨k, hk, rfl, hlow⟩ := hrel
    have HL := Lib.hid hlow
    clear hlow
    by_cases hlt : k < n
    · obtain ⟨b, off, rfl, hb, hcell⟩ := HT.out (by omega)
      have c0 : w.cell? ⟨b, off + k, none⟩ = some (.int .i64 (T k)) := by simpa using hcell k hlt 0 _ rfl
      clear hcell
      by_cases hp : (x == T k) = true
      · go_wp2_with fail
        go_ret
        exact ⟨ret_int (ixOf_found hlt hp HL.out).symm, rfl⟩
      · have hp' : (x == T k) = false := by simpa using hp
        clear hp
        go_wp2_with fail
        go_round
        case rel =>
          refine ⟨k + 1, by omega, by go_num, fun j hj => ?_⟩
          by_cases e : j = k
          · rw [e]; exact hp'
          · exact HL.out j (by omega)
        case measure => simp [intOf]; omega
    · go_wp2_with fail
      go_ret
      exact ⟨ret_int (ixOf_none fun j hj => HL.out j (by omega)).symm, rfl⟩
set_option maxHeartbeats 400000 in
theorem containsI_any (A : Option Addr) (n c : Nat) (T : Nat → Int) (x : Int) (w : World) (hn : n ≤ 9223372036854775807) (hT : Rd w 1 (tmC T) A n) :
    Calls Tryz.prog 92 #[.slice A n c, .int .i64 x] w fun e w' => e = .returned (.bool (anyOf (fun k => x == T k) n)) ∧ w = w' := by
  have H := Lib.hid (indexI_any A n c T x w hn hT)
  clear hT
  go_enter Tryz.func92, Tryz.ntmps92
  go_wp2_with fail
  refine H.out.mono ?_
  rintro e w1 ⟨rfl, rfl⟩
  go_wp2_with fail
  go_ret
  exact ⟨rfl, rfl⟩

set_option maxHeartbeats 800000 in
theorem equalI_any (A B : Option Addr) (n c m d : Nat) (T U : Nat → Int) (w : World) (hn : n ≤ 9223372036854775807) (hm : m ≤ 9223372036854775807) (hT : Rd w 1 (tmC T) A n) (hU : Rd w 1 (tmC U) B m) :
    Calls Tryz.prog 17 #[.slice A n c, .slice B m d] w fun e w' => e = .returned (.bool (decide (n = m) && !anyOf (fun k => T k != U k) n)) ∧ ∃ q, w' = w.drewN q := by
  have HT := Lib.hid hT
  have HU := Lib.hid hU
  clear hT hU
  by_cases hnm : n = m
  · subst hnm
    have hne : ((n : Int) != (n : Int)) = false := by simp
    go_enter Tryz.func17, Tryz.ntmps17
    go_wp2_with fail
    go_loopw [5, 13] (fun _ i wr => ∃ k q : Nat, k ≤ n ∧ i = .int .i64 k ∧ (∀ j, j < k → (T j != U j) = false) ∧ wr = w.drewN q) (fun _ i _ => n - (intOf i).toNat)
    case atStart => exact ⟨0, 0, Nat.zero_le _, rfl, fun j hj => by omega, rfl⟩
    case round =>
      obtain ⟨k, q, hk, rfl, hlow, rfl⟩ := hrel
      have HL := Lib.hid hlow
      clear hlow
      by_cases hlt : k < n
      · obtain ⟨b, off, rfl, hb, hcell⟩ := HT.out (by omega)
        obtain ⟨b2, off2, rfl, hb2, hcell2⟩ := HU.out (by omega)
        have c0 : (w.drewN q).cell? ⟨b, off + k, none⟩ = some (.int .i64 (T k)) := by simpa using hcell k hlt 0 _ rfl
        have c1 : (w.drewN q).cell? ⟨b2, off2 + k, none⟩ = some (.int .i64 (U k)) := by simpa using hcell2 k hlt 0 _ rfl
        have i1 : (0 : Int) ≤ (k : Int) := by omega
        have i2 : (k : Int) < (n : Int) := by omega
        clear hcell hcell2
        generalize hW : w.drewN q = wx at *
        have HW := Lib.hid hW
        clear hW
        by_cases hp : (T k != U k) = true
        · go_wp2_with fail
          go_quiet (fail)
          go_wp2_with fail
          go_ret
          refine ⟨ret_bool ?_, q + nq, by rw [← HW.out, drewN_drewN]⟩
          have h1 : anyOf (fun k => T k != U k) n = true := anyOf_true.2 ⟨k, hlt, hp⟩
          simp only [h1]
          simp
        · have hp' : (T k != U k) = false := by simpa using hp
          clear hp
          go_wp2_with fail
          go_quiet (fail)
          go_wp2_with fail
          go_roundw
          case rel =>
            refine ⟨k + 1, q + nq, by omega, by go_num, fun j hj => ?_, by rw [← HW.out, drewN_drewN]⟩
            by_cases e : j = k
            · rw [e]; exact hp'
            · exact HL.out j (by omega)
          case measure => simp [intOf]; omega
      · go_wp2_with fail
        go_ret
        have h1 : anyOf (fun k => T k != U k) n = false := anyOf_false.2 (fun j hj => HL.out j (by omega))
        exact ⟨ret_bool (by simp only [h1]; simp), q, rfl⟩
  · have hne : ((n : Int) != (m : Int)) = true := by simp; omega
    have H0 := Lib.hid hnm
    clear hnm
    go_enter Tryz.func17, Tryz.ntmps17
    go_wp2_with fail
    go_ret
    exact ⟨ret_bool (by simp [H0.out]), 0, rfl⟩

theorem info_cloneInt : (Tryz.prog.info? 3).map (fun i => (i.zero, i.size, i.bytes)) = some (some (.int .i64 0), 1, 8) := by kernel_rfl
set_option maxRecDepth 100000 in
set_option maxHeartbeats 400000 in
theorem cloneInt (A : Option Addr) (n c : Nat) (g : Nat → List Value) (w : World) (hR : Rd w 1 g A n) (hl : ∀ k, (g k).length = 1) (h1 : ∀ k u, u ∈ g k → u.oneCell' = true)
    (hA : A = none → n = 0) (hn : n * 8 ≤ 140737488355328) :
    Calls Tryz.prog 24 #[.slice A n c] w (ClonePost 3 1 n (flatC g n) w) := by
  obtain ⟨i0, hi, hz0, hz1, hz2⟩ := info_parts info_cloneInt
  have hnil := fun (w : World) => Lib.run_eql_slice_nil (P := Tryz.prog) w
  cases A with
  | none =>
    obtain rfl := hA rfl
    clear hR hl h1 hA hi hz0 hz1 hz2 hn
    go_enter Tryz.func24, Tryz.ntmps24
    go_wp2_with fail
    go_ret
    exact ⟨_, rfl, World.ownsRow_nil _ _ _ _, Below.refl _ _⟩
  | some a =>
    have hn0 : ∀ (o : Obj) j u, (flatC g n)[j]? = some u → (w.alloc o).cell? (a.add j) = some u := fun o j u hu => by
      obtain ⟨q1, q2, q3⟩ := flatC_at hl (by omega) hu
      obtain ⟨b, off, hab, hb, hc⟩ := hR (by omega)
      injection hab with hab
      subst hab
      have e : (⟨b, off, none⟩ : Addr).add j = ⟨b, off + j / 1 * 1 + j % 1, none⟩ := by
        have := Nat.div_add_mod' j 1
        unfold Addr.add
        split
        · rename_i h; subst h; simp
        · simp; omega
      rw [e, World.cell?_alloc_lt _ _ _ hb]
      exact hc _ q1 _ _ q3
    have HN := Lib.hid hn0
    have H1 := Lib.hid h1
    have HL := Lib.hid (flatC_length hl n)
    clear hR hl h1 hA hn0
    go_enter Tryz.func24, Tryz.ntmps24
    go_wp2_with (at_builtin; refine wpList_append_own _ rfl _ _ 31 rfl w.heap.size 3 i0 _ 1 8 Tryz.underlying31 hi hz0 hz1 hz2 rfl (by omega) (.slice (some ⟨w.heap.size, 0, none⟩) 0 0) 0 [] rfl (World.ownsRow_lit w #[] 0 (Nat.le_refl _) (by simp [maxLen]) rfl) a n c (flatC g n) rfl HL.out (HN.out _) (fun u hu => by obtain ⟨k, _, hk⟩ := flatC_mem hu; exact H1.out k u hk) (by unfold maxLen; omega) (by omega) (by simp) ?_; intro v1 w1 hown hgrow _; simp only [Nat.zero_add, List.nil_append] at hown)
    go_ret
    exact ⟨v1, rfl, hown, ((Below.refl _ _).alloc (Nat.le_refl _) _).grown hgrow (by simp) (by simp [Value.ownBlock])⟩

end Go.Proofs.YthgbcgphkddmgaaGreat
namespace Go.Proofs.YthgbcgphkddmgaaGreat
open Go.RowKit
set_option linter.unusedVariables false
theorem step_call2 {ops : Array Oper} {o : Oper} {a : Act} {w : World} {K : Act → World → Prop} {Q : Exit → Act → World → Prop} {E : Prop} (hgd : o.guard = none) (f : FuncId) (hen : ∀ args w, (callFunc f args).run Tryz.prog w = .ok (.enter f args) w) (s1 s2 : Operand) (t1 t2 : TypeId)
    (ho : o.op = .call { callee := .value (.func f), args := #[s1, s2], argTypes := #[t1, t2] }) (x1 x2 : Value) (hs1 : a.eval s1 = x1) (hs2 : a.eval s2 = x2) {R : Ending → World → Prop} (hc : Calls Tryz.prog f #[x1, x2] w R)
    (h : ∀ e w', R e w' → ∃ v, e = .returned v ∧ K (a.put o.dst v) w') :
    if Region.wanted o (yielded ops a.tmps) = true then Oper.wp Tryz.prog o a w K Q else E := by
  have hw : Region.wanted o (yielded ops a.tmps) = true := by simp [Region.wanted, hgd]
  rw [if_pos hw]
  have key : (execOp a.eval o).run Tryz.prog w = .ok (.enter f #[x1, x2]) w := by
    unfold execOp
    have hf : a.eval (.func f) = .func (.func f) #[] #[] := by simp [Act.eval]
    simp only [ho, resolve, invoke, Sem.run_bind, List.map_toArray, List.map_cons, List.map_nil, hs1, hs2, hf]
    simp [Deferred.ofValue, go_sem, hen]
  unfold Oper.wp
  rw [key, Oper.upon_enter]
  refine hc.mono ?_
  intro e w' hR
  obtain ⟨v, rfl, hK⟩ := h e w' hR
  exact hK
theorem step_call3 {ops : Array Oper} {o : Oper} {a : Act} {w : World} {K : Act → World → Prop} {Q : Exit → Act → World → Prop} {E : Prop} (hgd : o.guard = none) (f : FuncId) (hen : ∀ args w, (callFunc f args).run Tryz.prog w = .ok (.enter f args) w) (s1 s2 s3 : Operand) (t1 t2 t3 : TypeId)
    (ho : o.op = .call { callee := .value (.func f), args := #[s1, s2, s3], argTypes := #[t1, t2, t3] }) (x1 x2 x3 : Value) (hs1 : a.eval s1 = x1) (hs2 : a.eval s2 = x2) (hs3 : a.eval s3 = x3) {R : Ending → World → Prop} (hc : Calls Tryz.prog f #[x1, x2, x3] w R)
    (h : ∀ e w', R e w' → ∃ v, e = .returned v ∧ K (a.put o.dst v) w') :
    if Region.wanted o (yielded ops a.tmps) = true then Oper.wp Tryz.prog o a w K Q else E := by
  have hw : Region.wanted o (yielded ops a.tmps) = true := by simp [Region.wanted, hgd]
  rw [if_pos hw]
  have key : (execOp a.eval o).run Tryz.prog w = .ok (.enter f #[x1, x2, x3]) w := by
    unfold execOp
    have hf : a.eval (.func f) = .func (.func f) #[] #[] := by simp [Act.eval]
    simp only [ho, resolve, invoke, Sem.run_bind, List.map_toArray, List.map_cons, List.map_nil, hs1, hs2, hs3, hf]
    simp [Deferred.ofValue, go_sem, hen]
  unfold Oper.wp
  rw [key, Oper.upon_enter]
  refine hc.mono ?_
  intro e w' hR
  obtain ⟨v, rfl, hK⟩ := h e w' hR
  exact hK
end Go.Proofs.YthgbcgphkddmgaaGreat
namespace Go.Proofs.YthgbcgphkddmgaaGreat
open Go.RowKit
set_option linter.unusedVariables false
theorem setCells_row {g : Nat} {t : TypeId} : ∀ (vs : List Value) (o : Nat) (cur : Array Value) (w : World), w.heap[g]? = some (.cells cur t (0, 0)) → o + vs.length ≤ cur.size →
    w.setCells g o vs = w.setRow g (cur.toList.take o ++ vs ++ cur.toList.drop (o + vs.length)).toArray
  | [], o, cur, w, hg, _ => by simp [World.setCells]; rw [setRow_self w g cur t (0, 0) hg]
  | v :: r, o, cur, w, hg, hl => by
    rw [World.setCells, setCell_eq_setRow w g o cur t (0, 0) v hg, setCells_row r (o + 1) (cur.setIfInBounds o v) _ (setRow_heap w g cur _ t _ hg) (by simp at hl ⊢; omega), setRow_setRow]
    congr 2
    have e := list_seg_step cur.toList o v r (by simp at hl ⊢; omega)
    simpa [Array.toList_setIfInBounds, Nat.add_assoc] using e
theorem setCells_heap {g : Nat} {t : TypeId} {vs : List Value} {o : Nat} {cur : Array Value} {w : World} (hg : w.heap[g]? = some (.cells cur t (0, 0))) (hl : o + vs.length ≤ cur.size) :
    (w.setCells g o vs).heap[g]? = some (.cells (cur.toList.take o ++ vs ++ cur.toList.drop (o + vs.length)).toArray t (0, 0)) := by
  rw [setCells_row vs o cur w hg hl]
  exact setRow_heap w g cur _ t _ hg
theorem grown_setCells (w : World) (g o : Nat) (vs : List Value) : w.grownBy (w.setCells g o vs) (some g) := by
  induction vs generalizing w o with
  | nil => exact grown_self _ _
  | cons v r ih => exact grown_step (grown_set (grown_self w (some g)) v) (ih _ _) (.inl rfl)
theorem cell_of_row {w : World} {g : Nat} {cur : Array Value} {t : TypeId} {j : Nat} (hg : w.heap[g]? = some (.cells cur t (0, 0))) : w.cell? ⟨g, j, none⟩ = cur[j]? := by simp [World.cell?, hg]
theorem frozen_of_row {w : World} {g : Nat} {cur : Array Value} {t : TypeId} {j : Nat} (hg : w.heap[g]? = some (.cells cur t (0, 0))) : w.frozen? ⟨g, j, none⟩ = false := by simp [World.frozen?, hg]
theorem shape_of_row {w : World} {g : Nat} {cur : Array Value} {t : TypeId} (hg : w.heap[g]? = some (.cells cur t (0, 0))) : w.shape? g = some (t, cur.size) := by simp [World.shape?, hg]
/-- copy over elements of sz cells: all is read before anything is written -/
theorem run_copy_sz {P : Program} (w : World) (dT sT ty elem : TypeId) (sz : Nat) (b o dLen dCap : Nat) (a : Addr) (sLen sCap : Nat) (cs : List Value)
    (hu : P.underlying dT = some (.slice elem)) (hs : (P.info? elem).map (·.size) = some sz) (hn : cs.length = Nat.min sLen dLen * sz) (m : Nat) (hm : m = Nat.min sLen dLen)
    (hsrc : ∀ j v, cs[j]? = some v → w.cell? (a.add j) = some v) (hc : ∀ j, j < cs.length → (w.cell? ⟨b, o + j, none⟩).isSome = true) (hf : ∀ j, j < cs.length → w.frozen? ⟨b, o + j, none⟩ = false) (h1 : ∀ v ∈ cs, v.oneCell' = true) :
    (Builtin.copy_ #[dT, sT] ty #[.slice (some ⟨b, o, none⟩) dLen dCap, .slice (some a) sLen sCap]).run P w = .ok (goInt m) (w.setCells b o cs) := by
  have hl := run_loadCells_list (P := P) w a cs hsrc
  have hst := run_storeCells_cells (P := P) b o cs 0 w (by simpa using hc) (by simpa using hf) h1
  subst hm
  cases hq : P.info? elem with
  | none => simp [hq] at hs
  | some i =>
    have hi : i.size = sz := by simpa [hq] using hs
    rw [hn] at hl
    simp [Builtin.copy_, run_underlying hu, Builtin.lenOf, Builtin.firstCells, sizeOf, typeInfo, hq, hi, hl, hst]
theorem step_copy_eq {P : Program} {ops : Array Oper} {o : Oper} {a : Act} {w : World} {K : Act → World → Prop} {Q : Exit → Act → World → Prop} {E : Prop}
    (hg : o.guard = none) (d x : Operand) (dT sT : TypeId) (hop : o.op = Op.call { callee := Callee.builtin Builtin.copy, args := #[d, x], argTypes := #[dT, sT] })
    (v u : Value) (hd : a.eval d = v) (hx : a.eval x = u) {v' : Value} {w' : World} (hr : (Builtin.copy_ #[dT, sT] o.type #[v, u]).run P w = .ok v' w') (hK : K (a.put o.dst v') w') :
    if Region.wanted o (yielded ops a.tmps) = true then Oper.wp P o a w K Q else E := by
  have hw : Region.wanted o (yielded ops a.tmps) = true := by simp [Region.wanted, hg]
  rw [if_pos hw]
  unfold Oper.wp
  simp [execOp, hop, resolve, invoke, builtin, hd, hx, hr, Result.andThen]
  exact hK
/-- clear over elements of several cells -/
theorem run_clear_sz {P : Program} (w : World) (t e ty : TypeId) (z : Value) (ht : P.underlying t = some (.slice e)) (hv : ∀ w, (zeroValue e).run P w = .ok z w) (b o n c : Nat) (hn : 0 < n)
    (hc : ∀ j, j < (Builtin.zeroCells z.cells n).toList.length → (w.cell? ⟨b, o + j, none⟩).isSome = true) (hf : ∀ j, j < (Builtin.zeroCells z.cells n).toList.length → w.frozen? ⟨b, o + j, none⟩ = false) (h1 : ∀ v ∈ (Builtin.zeroCells z.cells n).toList, v.oneCell' = true) :
    (Builtin.clear_ #[t] ty #[.slice (some ⟨b, o, none⟩) n c]).run P w = .ok (.tuple #[]) (w.setCells b o (Builtin.zeroCells z.cells n).toList) := by
  have hst := run_storeCells_cells (P := P) b o _ 0 w (by simpa using hc) (by simpa using hf) h1
  cases n with
  | zero => omega
  | succ n => simp [Builtin.clear_, run_underlying ht, hv, hst]
theorem zeroCells_len (z : Array Value) (n : Nat) : (Builtin.zeroCells z n).toList.length = n * z.size := by simp [Builtin.zeroCells]
end Go.Proofs.YthgbcgphkddmgaaGreat
