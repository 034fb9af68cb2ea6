/- The law NodeHome on nodes as data. The law NodeChain on nodes as data. The walk of the law NodeChain. -/
import Derived.Test.YtjjfglbcikaicaaGreatMI
import Derived.Test.YtjjfglbcikaicaaGreatME
import Derived.Test.YtjjfglbcikaicaaGreatMB
import Derived.Test.YtjjfglbcikaicaaGreatOpen
import Derived.Test.YtjjfglbcikaicaaGreatMJ
namespace Go.Proofs.YtjjfglbcikaicaaGreat
open Go.RowKit
set_option linter.unusedVariables false
def sentM (N : NdS) (r : Int) : NdS := match N.find r with
  | none => N
  | some a => (N.setA (goA a).1).setA (ranA N a)
def homeS (ref : Int) : List Stp := [⟨6, 0, -1, []⟩, ⟨2, ref, 5, []⟩, ⟨6, 0, -1, []⟩]
def msgTo (me : Int) : LT := ⟨1, 0, me, 0, ⟨#[]⟩, vLeaf 0 0⟩
def fiveTo (me ref : Int) : LT := ⟨1, me, ref, 0, ⟨#[]⟩, vLeaf 2 5⟩
def homeN1 (id ref a b : Int) : NdS := homeN (homeN (spawnN (newN id [homeS ref] 10) ⟨#[48]⟩).1 ref a) ref b
def homeN3 (id me ref a b : Int) : NdS := { (putN (turnN (homeN1 id ref a b)).1 (msgTo me)).1 with last := me }
def homeE (id me ref a b : Int) : NdS := (turnN (putN (turnN (homeN1 id ref a b)).1 (msgTo me)).1).1
theorem sendN_out {M : NdS} {x : LT} {id b : Int} {f : Int → Option Int} (h1 : M.has x.to = false) (h2 : M.homes = f) (h3 : f x.to = some b) (hi : M.id = id) (hk : x.kind = 1) : sendN M x = if b < 1 ∨ 8 < b ∨ b = id then M else { M with out := M.out ++ [x] } := by
  have hl : locN M x.to = if b < 1 ∨ 8 < b then id else b := by
    unfold locN
    rw [h2, h3, hi]
    rfl
  have hr : replyW rem60 M x = M := by
    unfold replyW noneL
    rw [if_neg (by omega), if_neg (by omega)]
  unfold sendN sendW
  rw [if_neg (by rw [h1]; decide), hl, hr, hi]
  by_cases e1 : b < 1 ∨ 8 < b
  · rw [if_pos e1, if_neg (fun h => h rfl), if_pos (by omega)]
  · rw [if_neg e1]
    by_cases e2 : b = id
    · rw [if_neg (fun h => h e2), if_pos (by omega)]
    · rw [if_pos e2, if_neg (by omega)]
theorem home_end {N M : NdS} {me ref b id : Int} {f : Int → Option Int} (he : N = loopN 9 (sendN M (fiveTo me (if ref = 0 then me else if ref = -1 then 0 else ref))) me) (h0 : ref ≠ 0) (h9 : ref ≠ -1) (hr : M.acts.map (·.ref) = [me]) (hne : ref ≠ me) (h2 : M.homes = f) (h3 : f ref = some b) (hi : M.id = id)
    (e1 : (loopN 9 M me).out = []) (e2 : (loopN 9 { M with out := M.out ++ [fiveTo me ref] } me).out = [fiveTo me ref]) : N.out = if b < 1 ∨ 8 < b ∨ b = id then [] else [fiveTo me ref] := by
  have hh : M.has (fiveTo me ref).to = false := by
    rw [← Bool.not_eq_true, has_iff]
    rintro ⟨a, ha, e⟩
    have : a.ref ∈ M.acts.map (·.ref) := List.mem_map_of_mem ha
    rw [hr, List.mem_singleton] at this
    exact hne (e.symm.trans this)
  rw [if_neg h0, if_neg h9] at he
  rw [he, sendN_out hh h2 h3 hi rfl]
  split
  · exact e1
  · exact e2
theorem homes_at (id ref a b : Int) : (homeN1 id ref a b).homes ref = some b := by
  unfold homeN1
  exact if_pos rfl
theorem home_spawn {id : Int} (h : 1 ≤ id ∧ id ≤ 8) (ref : Int) : (spawnN (newN id [homeS ref] 10) ⟨#[48]⟩).2 = (id * 1000 + 1, 0) := by
  obtain rfl | rfl | rfl | rfl | rfl | rfl | rfl | rfl : id = 1 ∨ id = 2 ∨ id = 3 ∨ id = 4 ∨ id = 5 ∨ id = 6 ∨ id = 7 ∨ id = 8 := by omega
  all_goals kernel_rfl
set_option maxRecDepth 100000 in
theorem home_out {id : Int} (h : 1 ≤ id ∧ id ≤ 8) {me : Int} (hme : me = id * 1000 + 1) {ref : Int} (hne : ref ≠ me) (h0 : ref ≠ 0) (h9 : ref ≠ -1) (a b : Int) : (homeE id me ref a b).out = if b < 1 ∨ 8 < b ∨ b = id then [] else [fiveTo me ref] := by
  obtain rfl | rfl | rfl | rfl | rfl | rfl | rfl | rfl : id = 1 ∨ id = 2 ∨ id = 3 ∨ id = 4 ∨ id = 5 ∨ id = 6 ∨ id = 7 ∨ id = 8 := by omega
  · obtain rfl : me = 1001 := by omega
    exact home_end (M := sentM (homeN3 1 1001 ref a b) 1001) (f := (homeN1 1 ref a b).homes) (by kernel_rfl) h0 h9 (by kernel_rfl) hne (by kernel_rfl) (homes_at _ _ _ _) (by kernel_rfl) (by kernel_rfl) (by kernel_rfl)
  · obtain rfl : me = 2001 := by omega
    exact home_end (M := sentM (homeN3 2 2001 ref a b) 2001) (f := (homeN1 2 ref a b).homes) (by kernel_rfl) h0 h9 (by kernel_rfl) hne (by kernel_rfl) (homes_at _ _ _ _) (by kernel_rfl) (by kernel_rfl) (by kernel_rfl)
  · obtain rfl : me = 3001 := by omega
    exact home_end (M := sentM (homeN3 3 3001 ref a b) 3001) (f := (homeN1 3 ref a b).homes) (by kernel_rfl) h0 h9 (by kernel_rfl) hne (by kernel_rfl) (homes_at _ _ _ _) (by kernel_rfl) (by kernel_rfl) (by kernel_rfl)
  · obtain rfl : me = 4001 := by omega
    exact home_end (M := sentM (homeN3 4 4001 ref a b) 4001) (f := (homeN1 4 ref a b).homes) (by kernel_rfl) h0 h9 (by kernel_rfl) hne (by kernel_rfl) (homes_at _ _ _ _) (by kernel_rfl) (by kernel_rfl) (by kernel_rfl)
  · obtain rfl : me = 5001 := by omega
    exact home_end (M := sentM (homeN3 5 5001 ref a b) 5001) (f := (homeN1 5 ref a b).homes) (by kernel_rfl) h0 h9 (by kernel_rfl) hne (by kernel_rfl) (homes_at _ _ _ _) (by kernel_rfl) (by kernel_rfl) (by kernel_rfl)
  · obtain rfl : me = 6001 := by omega
    exact home_end (M := sentM (homeN3 6 6001 ref a b) 6001) (f := (homeN1 6 ref a b).homes) (by kernel_rfl) h0 h9 (by kernel_rfl) hne (by kernel_rfl) (homes_at _ _ _ _) (by kernel_rfl) (by kernel_rfl) (by kernel_rfl)
  · obtain rfl : me = 7001 := by omega
    exact home_end (M := sentM (homeN3 7 7001 ref a b) 7001) (f := (homeN1 7 ref a b).homes) (by kernel_rfl) h0 h9 (by kernel_rfl) hne (by kernel_rfl) (homes_at _ _ _ _) (by kernel_rfl) (by kernel_rfl) (by kernel_rfl)
  · obtain rfl : me = 8001 := by omega
    exact home_end (M := sentM (homeN3 8 8001 ref a b) 8001) (f := (homeN1 8 ref a b).homes) (by kernel_rfl) h0 h9 (by kernel_rfl) hne (by kernel_rfl) (homes_at _ _ _ _) (by kernel_rfl) (by kernel_rfl) (by kernel_rfl)
end Go.Proofs.YtjjfglbcikaicaaGreat
namespace Go.Proofs.YtjjfglbcikaicaaGreat
open Go.RowKit
set_option linter.unusedVariables false
def linkS (i : Nat) : List Stp := [⟨3, (i : Int) + 1, 0, []⟩, ⟨5, -1, 0, []⟩, ⟨6, 0, -1, [-7]⟩]
def failS : List Stp := [⟨6, 0, -1, []⟩, ⟨8, 0, 0, []⟩]
def chainS (k : Nat) : List (List Stp) := (List.range k).map linkS ++ [failS]
def chainI (k : Nat) : Nat → NdS
  | 0 => (spawnN (newN 3 (chainS k) 10) ⟨#[48]⟩).1
  | i + 1 => (turnN (chainI k i)).1
def chainR (k : Nat) : List Int := (List.range (k + 1)).map fun i : Nat => 3001 + (i : Int)
def chainW : LT := ⟨3, 7007, 3001, 0, ⟨#[]⟩, vLeaf 0 0⟩
def chainL (k : Nat) : LT := ⟨1, 0, 3001 + (k : Int), 0, ⟨#[]⟩, vLeaf 2 1⟩
def chainD : LT := ⟨2, 3001, 7007, 1, ⟨#[102]⟩, vLeaf 0 0⟩
def chainE (k : Nat) : NdS := (turnN (putN (putN (chainI k 20) chainW).1 (chainL k)).1).1
theorem chain_spawn {k : Nat} (h : 1 ≤ k ∧ k ≤ 8) : (spawnN (newN 3 (chainS k) 10) ⟨#[48]⟩).2 = (3001, 0) := by
  obtain rfl | rfl | rfl | rfl | rfl | rfl | rfl | rfl : k = 1 ∨ k = 2 ∨ k = 3 ∨ k = 4 ∨ k = 5 ∨ k = 6 ∨ k = 7 ∨ k = 8 := by omega
  all_goals kernel_rfl
theorem chain_refs {k : Nat} (h : 1 ≤ k ∧ k ≤ 8) : refsN (chainI k 20) = chainR k := by
  obtain rfl | rfl | rfl | rfl | rfl | rfl | rfl | rfl : k = 1 ∨ k = 2 ∨ k = 3 ∨ k = 4 ∨ k = 5 ∨ k = 6 ∨ k = 7 ∨ k = 8 := by omega
  all_goals kernel_rfl
theorem chain_puts {k : Nat} (h : 1 ≤ k ∧ k ≤ 8) : (putN (chainI k 20) chainW).2 = 0 ∧ (putN (putN (chainI k 20) chainW).1 (chainL k)).2 = 0 := by
  obtain rfl | rfl | rfl | rfl | rfl | rfl | rfl | rfl : k = 1 ∨ k = 2 ∨ k = 3 ∨ k = 4 ∨ k = 5 ∨ k = 6 ∨ k = 7 ∨ k = 8 := by omega
  all_goals exact ⟨by kernel_rfl, by kernel_rfl⟩
theorem chain_end {k : Nat} (h : 1 ≤ k ∧ k ≤ 8) : (chainE k).acts.length = 0 ∧ (chainE k).out = [chainD] := by
  obtain rfl | rfl | rfl | rfl | rfl | rfl | rfl | rfl : k = 1 ∨ k = 2 ∨ k = 3 ∨ k = 4 ∨ k = 5 ∨ k = 6 ∨ k = 7 ∨ k = 8 := by omega
  all_goals exact ⟨by kernel_rfl, by kernel_rfl⟩
end Go.Proofs.YtjjfglbcikaicaaGreat
namespace Go.Proofs.YtjjfglbcikaicaaGreat
open Go.RowKit Go.ChangeShapes Go.WideShapes
set_option linter.unusedVariables false
set_option linter.unusedSimpArgs false
/-- a letter without a value -/
theorem plain_isL (k f t n : Int) (s : ByteArray) (w : World) (S : Nat → Prop) : (⟨k, f, t, n, s, vLeaf 0 0⟩ : LT).isL w S [.int .i64 k, .int .i64 f, .int .i64 t, .int .i64 n, .string s, .int .i64 0, .int .i64 0, .string ⟨#[]⟩, .slice none 0 0] := ⟨_, _, _, none, 0, 0, rfl, leaf_V w S _ _⟩
theorem plain_wf {k f t n : Int} {s : ByteArray} (hf : Wf f) (ht : Wf t) (hn : Wf n) : LtWf ⟨k, f, t, n, s, vLeaf 0 0⟩ := ⟨hf, ht, hn, ⟨⟨by omega, by omega⟩, fun i hi => by omega⟩, by simp [vLeaf, VT.many, sumTo]⟩
/-- one letter that was just built -/
theorem rdL_oneS {w W : World} {S : Nat → Prop} {t : TypeId} {l : LT} {cs : List Value} (hW : W = w.alloc (.cells cs.toArray t)) (hS : S w.heap.size) (h : l.isL W S cs) : RdL W S (some ⟨w.heap.size, 0, none⟩) 1 (fun _ => l) := fun _ => ⟨w.heap.size, 0, rfl, by rw [hW]; simp, hS, fun _ => cs, fun i hi => ⟨h, fun j u hu => by
  obtain rfl : i = 0 := by omega
  have := cell_newL w cs t _ rfl j u hu
  rw [Addr.add_lit, Nat.zero_add] at this
  rw [hW, Nat.zero_mul, Nat.zero_add]
  exact this⟩⟩
theorem chainS_wf (k : Nat) (h : 1 ≤ k ∧ k ≤ 8) : ∀ l, l ∈ chainS k → StpsWf l := fun l hl => by
  unfold chainS at hl
  rcases List.mem_append.1 hl with hl | hl
  · obtain ⟨i, hi, rfl⟩ := List.mem_map.1 hl
    have hi' := List.mem_range.1 hi
    intro s hs
    simp [linkS] at hs
    rcases hs with rfl | rfl | rfl
    · exact ⟨Wf.of (by show _ ≤ (i : Int) + 1; omega) (by show (i : Int) + 1 ≤ _; omega), wf0⟩
    · exact ⟨show Wf (-1) from Wf.of (by decide) (by decide), wf0⟩
    · exact ⟨wf0, show Wf (-1) from Wf.of (by decide) (by decide)⟩
  · rw [List.mem_singleton] at hl
    subst hl
    intro s hs
    simp [failS] at hs
    rcases hs with rfl | rfl
    · exact ⟨wf0, show Wf (-1) from Wf.of (by decide) (by decide)⟩
    · exact ⟨wf0, wf0⟩
set_option maxRecDepth 100000 in
set_option maxHeartbeats 16000000 in
theorem nodeChain_walk {H : Type} {enc : TypeId × Value → H} (W : World) (base : Nat) (v0 : Value) {d0 : DataW H} {p0 : List MemPlace}
    (k0 : Value.okWide Tryz.prog W .any base 3 v0) (h0 : DataW.Trod enc Tryz.prog W 0 (fun _ => true) true 3 v0 d0 p0) :
    Calls Tryz.prog 3 #[v0] W fun e W' => e = .returned (.bool true) ∧ Below W.heap.size W W' := by
  obtain ⟨i, rfl, _, _, _⟩ := open_int Tryz.underlying3 k0 h0
  clear k0 h0
  have hwrap := wrap_rem i 8 (by omega) (by omega)
  obtain ⟨q, hq, hq8⟩ : ∃ q : Nat, ((IntKind.u64.wrap i).tmod ((8 : Nat) : Int)).toNat = q ∧ q < 8 := by
    refine ⟨_, rfl, ?_⟩
    obtain ⟨g0, g1⟩ := u64_wrap_range i
    rw [Int.tmod_eq_emod_of_nonneg g0]
    omega
  rw [hq] at hwrap
  have HWRAP := Lib.hid hwrap
  obtain ⟨k, hk⟩ : ∃ k : Nat, k = 1 + q := ⟨_, rfl⟩
  have hk8 : 1 ≤ k ∧ k ≤ 8 := by omega
  have HK := Lib.hid hk
  have HK8 := Lib.hid hk8
  clear hwrap hq
  go_enter Tryz.func3, Tryz.ntmps3
  go_wp2_with fail
  refine (nodes_any W).mono ?_
  rintro e w1 ⟨rfl, hb1⟩
  have HB1 := Lib.hid hb1
  clear hb1
  have hw2 : wrap64 (1 + wrap64 ((IntKind.u64.wrap i).tmod 8)) = (k : Int) := by
    have h := HWRAP.out
    have h' : wrap64 ((IntKind.u64.wrap i).tmod 8) = (q : Int) := h
    rw [h', HK.out]
    unfold wrap64
    omega
  have HW2 := Lib.hid hw2
  clear hw2 hk
  go_upto_block 0 with (fail)
  rw [HW2.out]
  go_wp2_with fail
  have hz1 := HB1.out.size
  have HBD := Lib.hid (show Below W.heap.size W w1 from HB1.out)
  go_loopw [3, 4, 18] (fun v3 _ v18 wr => ∃ (j : Nat) (L : List (List Stp)) (V : Nat → Value), j ≤ k ∧ v18 = .int .i64 (j : Int) ∧ Hid (L = (List.range j).map linkS) ∧ Hid (ScrRow wr w1.heap.size v3 L V) ∧ Hid (Below w1.heap.size w1 wr)) (fun _ _ v18 _ => k - (intOf v18).toNat)
  case atStart => exact ⟨0, [], _, Nat.zero_le _, rfl, Lib.hid rfl, Lib.hid (ScrRow.nil _ _), Lib.hid (Below.refl _ _)⟩
  case round =>
    obtain ⟨j, L, V, hj, rfl, HL, HR, HB⟩ := hrel
    rename_i v3 _ _
    have hzr := HB.out.size
    obtain ⟨Ar, cr, rfl, -, -, -⟩ := own_any HR.out.row
    by_cases hlt : j < k
    · obtain ⟨W5, hW5⟩ : ∃ W5, W5 = (wr.alloc (.cells #[.int .i64 (-7)] 3)).alloc (.cells #[.int .i64 3, .int .i64 ((j : Int) + 1), .int .i64 0, .slice none 0 0, .int .i64 5, .int .i64 (-1), .int .i64 0, .slice none 0 0, .int .i64 6, .int .i64 0, .int .i64 (-1), .slice (some ⟨wr.heap.size, 0, none⟩) 1 1] 28) := ⟨_, rfl⟩
      have hf5 : Fr (fun _ => False) wr W5 := by rw [hW5]; exact ((Fr.refl _ _).alloc _).alloc _
      have hz5 : W5.heap.size = wr.heap.size + 2 := by rw [hW5]; simp
      have hin : ScrIn W5 (fun b => wr.heap.size ≤ b ∧ b < W5.heap.size) (some ⟨wr.heap.size + 1, 0, none⟩) 3 (linkS j) (fun q => if q = 2 then .slice (some ⟨wr.heap.size, 0, none⟩) 1 1 else .slice none 0 0) := by
        refine scrIn_new (n := 3) rfl (by omega) ⟨by omega, by omega⟩ (fun q u hu => ?_) (fun q hq => ?_)
        · rw [hW5]
          have h := cell_newL (wr.alloc (.cells #[.int .i64 (-7)] 3)) (flatC (stC (linkS j) (fun q => if q = 2 then .slice (some ⟨wr.heap.size, 0, none⟩) 1 1 else .slice none 0 0)) 3) 28 (wr.heap.size + 1) (by simp) q u hu
          rw [Addr.add_lit, Nat.zero_add] at h
          exact h
        · have hq' : q < 3 := hq
          obtain rfl | rfl | rfl : q = 0 ∨ q = 1 ∨ q = 2 := by omega
          · exact numIn_nil _ _
          · exact numIn_nil _ _
          · exact numIn_one ⟨by omega, by omega⟩ (by rw [hW5]; simp [go_sem])
      have HIN := Lib.hid hin
      have HF5 := Lib.hid hf5
      have HW5 := Lib.hid hW5
      have hrl : L.length ≤ 1000 := by rw [HL.out]; simp; omega
      clear hin hf5 hW5
      go_wp2_with (at_builtin; (rw [← HW5.out]; go_loud (refine wpList_push_scr rfl _ _ rfl w1.heap.size _ _ V rfl HR.out HF5.out (some ⟨wr.heap.size + 1, 0, none⟩) 3 3 (linkS j) _ rfl HIN.out (wr.heap.size + 2) hz5 rfl hrl (by omega) ?_; intro v6 w6 V6 hr6 hf6 hb6; have HR6 := Lib.hid hr6; have HF6 := Lib.hid hf6; have HB6 := Lib.hid hb6; clear hr6 hf6 hb6)))
      go_roundw
      case rel => exact ⟨j + 1, L ++ [linkS j], V6, by omega, by go_num, Lib.hid (by rw [HL.out, List.range_succ, List.map_append]; rfl), HR6, Lib.hid (HB.out.trans ((HF6.out.below (base := w1.heap.size) (fun k hk => HB6.out k hk) hzr)))⟩
      case measure => simp [intOf]; omega
    · obtain rfl : j = k := by omega
      obtain ⟨W5, hW5⟩ : ∃ W5, W5 = wr.alloc (.cells #[.int .i64 6, .int .i64 0, .int .i64 (-1), .slice none 0 0, .int .i64 8, .int .i64 0, .int .i64 0, .slice none 0 0] 28) := ⟨_, rfl⟩
      have hf5 : Fr (fun _ => False) wr W5 := by rw [hW5]; exact (Fr.refl _ _).alloc _
      have hz5 : W5.heap.size = wr.heap.size + 1 := by rw [hW5]; simp
      have hin : ScrIn W5 (fun b => wr.heap.size ≤ b ∧ b < W5.heap.size) (some ⟨wr.heap.size, 0, none⟩) 2 failS (fun q => .slice none 0 0) := by
        refine scrIn_new (n := 2) rfl (by omega) ⟨by omega, by omega⟩ (fun q u hu => ?_) (fun q hq => ?_)
        · rw [hW5]
          have h := cell_newL wr (flatC (stC failS (fun q => .slice none 0 0)) 2) 28 _ rfl q u hu
          rw [Addr.add_lit, Nat.zero_add] at h
          exact h
        · have hq' : q < 2 := hq
          obtain rfl | rfl : q = 0 ∨ q = 1 := by omega
          · exact numIn_nil _ _
          · exact numIn_nil _ _
      have HIN := Lib.hid hin
      have HF5 := Lib.hid hf5
      have HW5 := Lib.hid hW5
      have hrl : L.length ≤ 1000 := by rw [HL.out]; simp; omega
      clear hin hf5 hW5
      go_wp2_with (at_builtin; (rw [← HW5.out]; go_loud (refine wpList_push_scr rfl _ _ rfl w1.heap.size _ _ V rfl HR.out HF5.out (some ⟨wr.heap.size, 0, none⟩) 2 2 failS _ rfl HIN.out (wr.heap.size + 1) hz5 rfl hrl (by omega) ?_; intro v6 w6 V6 hr6 hf6 hb6; obtain ⟨A6, c6, hv6, hs6⟩ := hr6.scrs (by simp; omega); subst hv6; have HS6 := Lib.hid hs6; have HF6 := Lib.hid (hf6.below (base := w1.heap.size) (fun k hk => hb6 k hk) hzr); clear hr6 hf6 hb6 hs6)))
      have hcs : L ++ [failS] = chainS j := by rw [HL.out]; rfl
      rw [hcs] at HS6
      have hlen : L.length + 1 = (chainS j).length := by rw [← hcs]; simp
      rw [hlen]
      have HB6 := Lib.hid (HB.out.trans HF6.out)
      have hz6 := HB6.out.size
      have HNEW := Lib.hid (new_any (fun _ => False) w6.heap.size 3 A6 c6 (chainS j) 10 w6 (fun _ h => h.elim) (Nat.le_refl _) HS6.out (chainS_wf j HK8.out) ⟨by omega, by omega⟩ ⟨by omega, by omega⟩)
      clear hcs hlen HR HB HIN HF5 HW5 HS6 HF6
      refine HNEW.out.mono ?_
      rintro e w7 ⟨p, P, rfl, hp, hf7, hn7⟩
      have HG7 := Lib.hid (show Fr (fun k => W.heap.size ≤ k) W w7 from (Fr.of_below (HBD.out.trans (HB6.out.mono hz1))).trans (hf7.weak (S2 := fun _ => False) (fun _ h => h)) (fun k hk => hk.elim))
      have HLO := Lib.hid (show ∀ k, (fun k => w6.heap.size ≤ k ∧ k < w7.heap.size) k → W.heap.size ≤ k from fun k hk => by have := hk.1; omega)
      have HSP := Lib.hid (spawn_any 48 (hn7.up (T' := 1000) (by omega)) (by show 0 + 201 * 0 + 201 ≤ 1000; omega) (by omega))
      have hS2 := chain_spawn HK8.out
      have e1 : (spawnN (newN 3 (chainS j) 10) ⟨#[48]⟩).2.1 = 3001 := by rw [hS2]
      have e2 : (spawnN (newN 3 (chainS j) 10) ⟨#[48]⟩).2.2 = 0 := by rw [hS2]
      have HI0 := Lib.hid (show (spawnN (newN 3 (chainS j) 10) ⟨#[48]⟩).1 = chainI j 0 from rfl)
      rw [HI0.out, e1, e2] at HSP
      clear hn7 hf7 HNEW e1 e2 hS2 HI0 HL HWRAP HK HW2
      go_wp2_with fail
      refine HSP.out.mono ?_
      rintro e w8 ⟨P8, -, rfl, X8, M8, hg8, hn8⟩
      have HN8 := Lib.hid hn8
      have HG8 := Lib.hid (show Fr (fun k => W.heap.size ≤ k) W w8 from HG7.out.trans (hg8.fr.weak (fun k hk => HLO.out k hk)) (fun k hk => .inl hk))
      have HM8 := Lib.hid (show ∀ k, M8 k → W.heap.size ≤ k from fun k hk => by
        rcases hg8.ms k hk with h | h
        · exact HLO.out k h
        · have := HG7.out.size; omega)
      clear hg8 hn8 HSP HG7 HLO
      go_wp2_with fail
      go_loopw [53] (fun v53 wr => ∃ (c : Nat) (Pc : Int → Nat) (Xc Mc : Nat → Prop), c ≤ 20 ∧ v53 = .int .i64 (c : Int) ∧ Hid (Gr X8 M8 w8 Xc Mc wr) ∧ Hid (NodeAt wr Xc Mc w6.heap.size (1000 + 60000000 * c) p Pc (chainI j c))) (fun v53 _ => 20 - (intOf v53).toNat)
      case atStart => exact ⟨0, P8, X8, M8, Nat.zero_le _, rfl, Lib.hid (Gr.refl _ _ _), HN8⟩
      case round =>
        obtain ⟨c, Pc, Xc, Mc, hc, rfl, HGc, HNc⟩ := hrel
        by_cases hlt2 : c < 20
        · have HTc := Lib.hid (turn_any HNc.out (by omega))
          go_wp2_with fail
          refine HTc.out.mono ?_
          rintro e w9 ⟨rfl, P9, X9, M9, hg9, hn9⟩
          have HG9 := Lib.hid (HGc.out.trans hg9)
          have HN9 := Lib.hid (show NodeAt w9 X9 M9 w6.heap.size (1000 + 60000000 * (c + 1)) p P9 (chainI j (c + 1)) from NodeAt.up hn9 (by omega))
          clear hg9 hn9 HTc
          go_wp2_with fail
          go_roundw
          case rel => exact ⟨c + 1, P9, X9, M9, by omega, by go_num, HG9, HN9⟩
          case measure => simp [intOf]; omega
        · obtain rfl : c = 20 := by omega
          have HRF := Lib.hid (refs_any HNc.out)
          have hrefs := chain_refs HK8.out
          have hlen : (chainI j 20).acts.length = j + 1 := by rw [← refsN_len, hrefs]; simp [chainR]
          rw [hlen, hrefs] at HRF
          clear hlen hrefs
          go_wp2_with fail
          refine HRF.out.mono ?_
          rintro e w10 ⟨A, cc, rfl, hO, hb10⟩
          obtain ⟨b, off, hA, hbl, hcell⟩ := hO.rd (by simp [chainR])
          subst hA
          have hblo := (hO.blk b (by rfl)).1
          have HF10 := Lib.hid (Fr.of_below (S := fun _ => False) hb10)
          have HN10 := Lib.hid (HNc.out.new HF10.out (fun _ h => h))
          have hbM : ¬ Mc b := fun hm => by have := HNc.out.xlt b (HNc.out.2.2.1 b hm).1; omega
          have c0 : w10.cell? ⟨b, off, none⟩ = some (.int .i64 3001) := by
            have h := hcell 0 (by simp [chainR]) 0 _ rfl
            simpa [lst, chainR] using h
          have cj : w10.cell? ⟨b, off + j, none⟩ = some (.int .i64 (3001 + (j : Int))) := by
            have h := hcell j (by simp [chainR]) 0 _ rfl
            have e : lst (chainR j) j = 3001 + (j : Int) := by
              unfold lst chainR
              rw [List.getD_eq_getElem?_getD]
              simp
            rw [e] at h
            simpa using h
          have HG10 := Lib.hid (HGc.out.trans (Gr.new HF10.out))
          have HPW := Lib.hid (put_any chainW _ (fun _ => True) HN10.out (plain_isL 3 7007 3001 0 ⟨#[]⟩ w10 _) (plain_wf (Wf.of (by decide) (by decide)) (Wf.of (by decide) (by decide)) wf0) (by omega))
          have hpu := chain_puts HK8.out
          have HPU := Lib.hid hpu
          rw [hpu.1] at HPW
          have hj8 : j ≤ 8 := HK8.out.2
          clear hO hb10 hcell HNc HGc HRF hpu
          go_wp2_with fail
          refine HPW.out.mono ?_
          rintro e w11 ⟨rfl, X11, M11, hg11, hn11⟩
          have HG11 := Lib.hid (HG10.out.trans hg11)
          have d0 := hg11.fr.cell c0 hbM
          have dj := hg11.fr.cell cj hbM
          have hb11 : b < w11.heap.size := Nat.lt_of_lt_of_le hbl hg11.fr.size
          have hbM11 : ¬ M11 b := fun hm => by
            rcases hg11.ms b hm with h | h
            · exact hbM h
            · omega
          have HPL := Lib.hid (put_any (chainL j) [.int .i64 1, .int .i64 0, .int .i64 (3001 + (j : Int)), .int .i64 0, .string ⟨#[]⟩, .int .i64 2, .int .i64 1, .string ⟨#[]⟩, .slice none 0 0] (fun _ => True) hn11 ⟨_, _, _, none, 0, 0, rfl, leaf_V w11 _ _ _⟩ ⟨wf0, Wf.of (by show _ ≤ 3001 + (j : Int); omega) (by show 3001 + (j : Int) ≤ _; omega), wf0, ⟨⟨by omega, by omega⟩, fun i hi => by omega⟩, by simp [chainL, vLeaf, VT.many, sumTo]⟩ (by omega))
          rw [HPU.out.2] at HPL
          have i1 : (0 : Int) ≤ (j : Int) := by omega
          have i2 : (j : Int) < ((j + 1 : Nat) : Int) := by omega
          clear hg11 hn11 HPW HG10 c0 cj hbM hbl
          go_wp2_with fail
          refine HPL.out.mono ?_
          rintro e w12 ⟨rfl, X12, M12, hg12, hn12⟩
          have HG12 := Lib.hid (HG11.out.trans hg12)
          have e0 := hg12.fr.cell d0 hbM11
          have hb12 : b < w12.heap.size := Nat.lt_of_lt_of_le hb11 hg12.fr.size
          have hbM12 : ¬ M12 b := fun hm => by
            rcases hg12.ms b hm with h | h
            · exact hbM11 h
            · omega
          have HT12 := Lib.hid (turn_any hn12 (by omega))
          clear hg12 hn12 HPL HG11 d0 dj hbM11 hb11
          go_wp2_with fail
          refine HT12.out.mono ?_
          rintro e w13 ⟨rfl, P13, X13, M13, hg13, hn13⟩
          have HG13 := Lib.hid (HG12.out.trans hg13)
          have f0 := hg13.fr.cell e0 hbM12
          have hb13 : b < w13.heap.size := Nat.lt_of_lt_of_le hb12 hg13.fr.size
          have hbM13 : ¬ M13 b := fun hm => by
            rcases hg13.ms b hm with h | h
            · exact hbM12 h
            · omega
          have HEND := Lib.hid (show (turnN (putN (putN (chainI j 20) chainW).1 (chainL j)).1).1.acts.length = 0 ∧ (turnN (putN (putN (chainI j 20) chainW).1 (chainL j)).1).1.out = [chainD] from by
            have h := chain_end HK8.out
            unfold chainE at h
            exact h)
          have HN13 := Lib.hid hn13
          clear hg13 hn13 HT12 HG12 e0 hbM12 hb12 HPU
          generalize (turnN (putN (putN (chainI j 20) chainW).1 (chainL j)).1).1 = N13 at *
          have HRF := Lib.hid (fun (W : World) (hf : Fr (fun _ => False) w13 W) => refs_any (HN13.out.new hf (fun _ h => h)))
          rw [HEND.out.1] at HRF
          have HOT := Lib.hid (fun (W : World) (hf : Fr (fun _ => False) w13 W) => out_any (HN13.out.new hf (fun _ h => h)))
          unfold OutPost at HOT
          rw [HEND.out.2] at HOT
          have HSR := Lib.hid (show ((1 : Nat) == 1 && allTo (fun i => sameLB (nthL [chainD] i) chainD) 1) = true from by
            have e : sameLB chainD chainD = true := sameLB_refl (plain_isL 2 3001 7007 1 ⟨#[102]⟩ w13 (fun _ => True))
            simp [allTo, nthL, e])
          have HML := Lib.hid (show ∀ k, M13 k → k < w13.heap.size from fun k hk => HN13.out.xlt k (HN13.out.2.2.1 k hk).1)
          have HSLA := Lib.hid (fun (wB : World) (AB : Option Addr) (cB : Nat) (SB : Nat → Prop) (h : RdL wB SB AB 1 (nthL [chainD])) => show Calls Tryz.prog 20 #[.slice AB 1 cB, .slice (some ⟨wB.heap.size, 0, none⟩) 1 1] (wB.alloc (.cells #[.int .i64 2, .int .i64 3001, .int .i64 7007, .int .i64 1, .string ⟨#[102]⟩, .int .i64 0, .int .i64 0, .string ⟨#[]⟩, .slice none 0 0] 43)) fun e w' => e = .returned (.bool true) ∧ Fr (fun _ => False) wB w' from by
            have hf : Fr (fun _ => False) wB (wB.alloc (.cells #[.int .i64 2, .int .i64 3001, .int .i64 7007, .int .i64 1, .string ⟨#[102]⟩, .int .i64 0, .int .i64 0, .string ⟨#[]⟩, .slice none 0 0] 43)) := (Fr.refl _ _).alloc _
            refine (sameLs_any 1 1 cB 1 AB (some ⟨wB.heap.size, 0, none⟩) (nthL [chainD]) (fun _ => chainD) SB (fun _ => True) _ (by omega) (by omega) (h.frame hf.size (fun k hk hlt => ⟨hk, hf.block k hlt (fun h => h)⟩)) (rdL_oneS (cs := [.int .i64 2, .int .i64 3001, .int .i64 7007, .int .i64 1, .string ⟨#[102]⟩, .int .i64 0, .int .i64 0, .string ⟨#[]⟩, .slice none 0 0]) rfl trivial (plain_isL 2 3001 7007 1 ⟨#[102]⟩ _ _))).mono ?_
            rintro e w' ⟨rfl, hb⟩
            exact ⟨by rw [HSR.out], hf.trans' (Fr.of_below hb)⟩)
          have HSLB := Lib.hid (fun (wA wB : World) (AB : Option Addr) (cB : Nat) (SB XB MB : Nat → Prop) (X0 : Nat → Prop) (hz : w13.heap.size ≤ wA.heap.size) (hg : Gr X0 M13 (wA.alloc (.cells #[.int .i64 2, .int .i64 3001, .int .i64 7007, .int .i64 1, .string ⟨#[102]⟩, .int .i64 0, .int .i64 0, .string ⟨#[]⟩, .slice none 0 0] 43)) XB MB wB) (h : RdL wB SB AB 1 (nthL [chainD])) => show Calls Tryz.prog 20 #[.slice AB 1 cB, .slice (some ⟨wA.heap.size, 0, none⟩) 1 1] wB fun e w' => e = .returned (.bool true) ∧ Fr (fun _ => False) wB w' from by
            refine (sameLs_any 1 1 cB 1 AB (some ⟨wA.heap.size, 0, none⟩) (nthL [chainD]) (fun _ => chainD) SB (fun k => w13.heap.size ≤ k) _ (by omega) (by omega) h ((rdL_oneS (w := wA) (S := fun k => w13.heap.size ≤ k) (cs := [.int .i64 2, .int .i64 3001, .int .i64 7007, .int .i64 1, .string ⟨#[102]⟩, .int .i64 0, .int .i64 0, .string ⟨#[]⟩, .slice none 0 0]) rfl hz (plain_isL 2 3001 7007 1 ⟨#[102]⟩ _ _)).frame hg.fr.size (fun k hk hlt => ⟨hk, hg.fr.block k hlt (fun hm => by have := HML.out k hm; have h2 : w13.heap.size ≤ k := hk; omega)⟩))).mono ?_
            rintro e w' ⟨rfl, hb⟩
            exact ⟨by rw [HSR.out], Fr.of_below hb⟩)
          clear HN13 HEND
          go_wp2_with fail
          go_region_held3 (fun W => W.cell? ⟨b, off, none⟩ = some (.int .i64 3001))
            (first | with_reducible exact f0 | with_reducible exact fA | with_reducible exact fB | with_reducible exact fC | with_reducible exact fA.out | with_reducible exact fAa.out | with_reducible exact fBa.out | go_keep)
            (first
            | (go_at_call 18; refine (HRF.out _ (by (repeat' first | with_reducible exact Fr.refl _ _ | (with_reducible refine Fr.setEq ?_ _) | (with_reducible refine Fr.setNew ?_ _) | with_reducible refine Fr.alloc ?_ _ | with_reducible refine Fr.drewN ?_ _ | with_reducible refine Fr.drew ?_))).mono ?_; rintro e wA ⟨AA, cA, rfl, -, hbA⟩; have HFA := Lib.hid ((show Fr (fun _ => False) w13 _ by (repeat' first | with_reducible exact Fr.refl _ _ | (with_reducible refine Fr.setEq ?_ _) | (with_reducible refine Fr.setNew ?_ _) | with_reducible refine Fr.alloc ?_ _ | with_reducible refine Fr.drewN ?_ _ | with_reducible refine Fr.drew ?_)).trans' (Fr.of_below hbA)); have fA := HFA.out.cell f0 (fun h => h); have hbA' := Nat.lt_of_lt_of_le hb13 HFA.out.size; clear hbA)
            | (go_at_call 21; refine (HOT.out _ (HFA.out.trans' (by (repeat' first | with_reducible exact Fr.refl _ _ | (with_reducible refine Fr.setEq ?_ _) | (with_reducible refine Fr.setNew ?_ _) | with_reducible refine Fr.alloc ?_ _ | with_reducible refine Fr.drewN ?_ _ | with_reducible refine Fr.drew ?_)))).mono ?_; rintro e wB ⟨AB, cB, SB, MB, rfl, -, -, hrdB, -, hgB, -⟩; have HGB := Lib.hid hgB; have HRB := Lib.hid (show RdL wB SB AB 1 (nthL [chainD]) from hrdB); have fB := hgB.fr.cell ((HFA.out.trans' (by (repeat' first | with_reducible exact Fr.refl _ _ | (with_reducible refine Fr.setEq ?_ _) | (with_reducible refine Fr.setNew ?_ _) | with_reducible refine Fr.alloc ?_ _ | with_reducible refine Fr.drewN ?_ _ | with_reducible refine Fr.drew ?_))).cell f0 (fun h => h)) hbM13; have hbB := Nat.lt_of_lt_of_le (Nat.lt_of_lt_of_le hb13 (HFA.out.trans' (by (repeat' first | with_reducible exact Fr.refl _ _ | (with_reducible refine Fr.setEq ?_ _) | (with_reducible refine Fr.setNew ?_ _) | with_reducible refine Fr.alloc ?_ _ | with_reducible refine Fr.drewN ?_ _ | with_reducible refine Fr.drew ?_))).size) hgB.fr.size; clear hgB hrdB)
            | (go_at_call 20; with_reducible refine (HSLA.out wB AB cB SB HRB.out).mono ?_; rintro e wC ⟨rfl, hbC⟩; have HBC := Lib.hid hbC; have fC := hbC.cell fB (fun h => h); clear hbC)
            | (go_at_call 20; with_reducible refine (HSLB.out wA wB AB cB SB _ _ _ HFA.out.size HGB.out HRB.out).mono ?_; rintro e wC ⟨rfl, hbC⟩; have HBC := Lib.hid hbC; have fC := hbC.cell fB (fun h => h); clear hbC))
          all_goals
            go_wp2_with fail
            refine bodyPost_ret (v := .bool true) (by simp [results, Tryz.results3, go_sem]) rfl ⟨rfl, ?_⟩
            have h1 : Fr (fun k => W.heap.size ≤ k) W w13 := HG8.out.trans (HG13.out.fr.weak (fun k hk => HM8.out k hk)) (fun k hk => .inl hk)
            have hM13 : ∀ k, M13 k → W.heap.size ≤ k := fun k hk => by
              rcases HG13.out.ms k hk with h | h
              · exact HM8.out k h
              · have := HG8.out.size; omega
            have h2 : Fr M13 w13 wB := ((HFA.out.trans' (by (repeat' first | with_reducible exact Fr.refl _ _ | (with_reducible refine Fr.setEq ?_ _) | (with_reducible refine Fr.setNew ?_ _) | with_reducible refine Fr.alloc ?_ _ | with_reducible refine Fr.drewN ?_ _ | with_reducible refine Fr.drew ?_))).weak (fun _ h => h.elim)).trans' HGB.out.fr
            exact ((h1.trans (h2.weak hM13) (fun k hk => .inl hk)).trans (HBC.out.weak (S2 := fun k => W.heap.size ≤ k) (fun _ h => h.elim)) (fun k hk => .inl hk)).below (fun k hk => hk) (Nat.le_refl _)
end Go.Proofs.YtjjfglbcikaicaaGreat
