/- The law NodeHome on nodes as data. The law NodeWatches on nodes as data. The walk of the law NodeWatches. -/
import Derived.Test.YtjjfglbcikaicaaGreatMI
import Derived.Test.YtjjfglbcikaicaaGreatME
import Derived.Test.YtjjfglbcikaicaaGreatMB
import Derived.Test.YtjjfglbcikaicaaGreatOpen
namespace Go.Proofs.YtjjfglbcikaicaaGreat
open Go.RowKit
set_option linter.unusedVariables false
def sentM (N : NdS) (r : Int) : NdS := match N.find r with
  | none => N
  | some a => (N.setA (goA a).1).setA (ranA N a)
def homeS (ref : Int) : List Stp := [⟨6, 0, -1, []⟩, ⟨2, ref, 5, []⟩, ⟨6, 0, -1, []⟩]
def msgTo (me : Int) : LT := ⟨1, 0, me, 0, ⟨#[]⟩, vLeaf 0 0⟩
def fiveTo (me ref : Int) : LT := ⟨1, me, ref, 0, ⟨#[]⟩, vLeaf 2 5⟩
def homeN1 (id ref a b : Int) : NdS := homeN (homeN (spawnN (newN id [homeS ref] 10) ⟨#[48]⟩).1 ref a) ref b
def homeN3 (id me ref a b : Int) : NdS := { (putN (turnN (homeN1 id ref a b)).1 (msgTo me)).1 with last := me }
def homeE (id me ref a b : Int) : NdS := (turnN (putN (turnN (homeN1 id ref a b)).1 (msgTo me)).1).1
theorem sendN_out {M : NdS} {x : LT} {id b : Int} {f : Int → Option Int} (h1 : M.has x.to = false) (h2 : M.homes = f) (h3 : f x.to = some b) (hi : M.id = id) (hk : x.kind = 1) : sendN M x = if b < 1 ∨ 8 < b ∨ b = id then M else { M with out := M.out ++ [x] } := by
  have hl : locN M x.to = if b < 1 ∨ 8 < b then id else b := by
    unfold locN
    rw [h2, h3, hi]
    rfl
  have hr : replyW rem60 M x = M := by
    unfold replyW noneL
    rw [if_neg (by omega), if_neg (by omega)]
  unfold sendN sendW
  rw [if_neg (by rw [h1]; decide), hl, hr, hi]
  by_cases e1 : b < 1 ∨ 8 < b
  · rw [if_pos e1, if_neg (fun h => h rfl), if_pos (by omega)]
  · rw [if_neg e1]
    by_cases e2 : b = id
    · rw [if_neg (fun h => h e2), if_pos (by omega)]
    · rw [if_pos e2, if_neg (by omega)]
theorem home_end {N M : NdS} {me ref b id : Int} {f : Int → Option Int} (he : N = loopN 9 (sendN M (fiveTo me (if ref = 0 then me else if ref = -1 then 0 else ref))) me) (h0 : ref ≠ 0) (h9 : ref ≠ -1) (hr : M.acts.map (·.ref) = [me]) (hne : ref ≠ me) (h2 : M.homes = f) (h3 : f ref = some b) (hi : M.id = id)
    (e1 : (loopN 9 M me).out = []) (e2 : (loopN 9 { M with out := M.out ++ [fiveTo me ref] } me).out = [fiveTo me ref]) : N.out = if b < 1 ∨ 8 < b ∨ b = id then [] else [fiveTo me ref] := by
  have hh : M.has (fiveTo me ref).to = false := by
    rw [← Bool.not_eq_true, has_iff]
    rintro ⟨a, ha, e⟩
    have : a.ref ∈ M.acts.map (·.ref) := List.mem_map_of_mem ha
    rw [hr, List.mem_singleton] at this
    exact hne (e.symm.trans this)
  rw [if_neg h0, if_neg h9] at he
  rw [he, sendN_out hh h2 h3 hi rfl]
  split
  · exact e1
  · exact e2
theorem homes_at (id ref a b : Int) : (homeN1 id ref a b).homes ref = some b := by
  unfold homeN1
  exact if_pos rfl
theorem home_spawn {id : Int} (h : 1 ≤ id ∧ id ≤ 8) (ref : Int) : (spawnN (newN id [homeS ref] 10) ⟨#[48]⟩).2 = (id * 1000 + 1, 0) := by
  obtain rfl | rfl | rfl | rfl | rfl | rfl | rfl | rfl : id = 1 ∨ id = 2 ∨ id = 3 ∨ id = 4 ∨ id = 5 ∨ id = 6 ∨ id = 7 ∨ id = 8 := by omega
  all_goals kernel_rfl
set_option maxRecDepth 100000 in
theorem home_out {id : Int} (h : 1 ≤ id ∧ id ≤ 8) {me : Int} (hme : me = id * 1000 + 1) {ref : Int} (hne : ref ≠ me) (h0 : ref ≠ 0) (h9 : ref ≠ -1) (a b : Int) : (homeE id me ref a b).out = if b < 1 ∨ 8 < b ∨ b = id then [] else [fiveTo me ref] := by
  obtain rfl | rfl | rfl | rfl | rfl | rfl | rfl | rfl : id = 1 ∨ id = 2 ∨ id = 3 ∨ id = 4 ∨ id = 5 ∨ id = 6 ∨ id = 7 ∨ id = 8 := by omega
  · obtain rfl : me = 1001 := by omega
    exact home_end (M := sentM (homeN3 1 1001 ref a b) 1001) (f := (homeN1 1 ref a b).homes) (by kernel_rfl) h0 h9 (by kernel_rfl) hne (by kernel_rfl) (homes_at _ _ _ _) (by kernel_rfl) (by kernel_rfl) (by kernel_rfl)
  · obtain rfl : me = 2001 := by omega
    exact home_end (M := sentM (homeN3 2 2001 ref a b) 2001) (f := (homeN1 2 ref a b).homes) (by kernel_rfl) h0 h9 (by kernel_rfl) hne (by kernel_rfl) (homes_at _ _ _ _) (by kernel_rfl) (by kernel_rfl) (by kernel_rfl)
  · obtain rfl : me = 3001 := by omega
    exact home_end (M := sentM (homeN3 3 3001 ref a b) 3001) (f := (homeN1 3 ref a b).homes) (by kernel_rfl) h0 h9 (by kernel_rfl) hne (by kernel_rfl) (homes_at _ _ _ _) (by kernel_rfl) (by kernel_rfl) (by kernel_rfl)
  · obtain rfl : me = 4001 := by omega
    exact home_end (M := sentM (homeN3 4 4001 ref a b) 4001) (f := (homeN1 4 ref a b).homes) (by kernel_rfl) h0 h9 (by kernel_rfl) hne (by kernel_rfl) (homes_at _ _ _ _) (by kernel_rfl) (by kernel_rfl) (by kernel_rfl)
  · obtain rfl : me = 5001 := by omega
    exact home_end (M := sentM (homeN3 5 5001 ref a b) 5001) (f := (homeN1 5 ref a b).homes) (by kernel_rfl) h0 h9 (by kernel_rfl) hne (by kernel_rfl) (homes_at _ _ _ _) (by kernel_rfl) (by kernel_rfl) (by kernel_rfl)
  · obtain rfl : me = 6001 := by omega
    exact home_end (M := sentM (homeN3 6 6001 ref a b) 6001) (f := (homeN1 6 ref a b).homes) (by kernel_rfl) h0 h9 (by kernel_rfl) hne (by kernel_rfl) (homes_at _ _ _ _) (by kernel_rfl) (by kernel_rfl) (by kernel_rfl)
  · obtain rfl : me = 7001 := by omega
    exact home_end (M := sentM (homeN3 7 7001 ref a b) 7001) (f := (homeN1 7 ref a b).homes) (by kernel_rfl) h0 h9 (by kernel_rfl) hne (by kernel_rfl) (homes_at _ _ _ _) (by kernel_rfl) (by kernel_rfl) (by kernel_rfl)
  · obtain rfl : me = 8001 := by omega
    exact home_end (M := sentM (homeN3 8 8001 ref a b) 8001) (f := (homeN1 8 ref a b).homes) (by kernel_rfl) h0 h9 (by kernel_rfl) hne (by kernel_rfl) (homes_at _ _ _ _) (by kernel_rfl) (by kernel_rfl) (by kernel_rfl)
end Go.Proofs.YtjjfglbcikaicaaGreat
namespace Go.Proofs.YtjjfglbcikaicaaGreat
open Go.RowKit
set_option linter.unusedVariables false
def watchS (k : Int) : List Stp := [⟨6, 0, -1, []⟩, ⟨k, 0, 0, []⟩]
def lastK (f : Bool) : Int := if f then 8 else 7
def watchM (x : Int) : LT := ⟨3, x, 4001, 0, ⟨#[]⟩, vLeaf 0 0⟩
def watchI (f : Bool) : Nat → NdS
  | 0 => (spawnN (newN 4 [watchS (lastK f)] 10) ⟨#[48]⟩).1
  | i + 1 => (putN (watchI f i) (watchM (5001 + (i : Int)))).1
def watchE (f : Bool) (t : Nat) : NdS := (turnN (putN (turnN (watchI f t)).1 (msgTo 4001)).1).1
def downM (f : Bool) (i : Nat) : LT := ⟨2, 4001, 5001 + (i : Int), if f then 1 else 0, if f then ⟨#[102]⟩ else ⟨#[]⟩, vLeaf 0 0⟩
def nobodyM : LT := ⟨2, 4001, 5001, 2, ⟨#[]⟩, vLeaf 0 0⟩
theorem watch_spawn (f : Bool) : (spawnN (newN 4 [watchS (lastK f)] 10) ⟨#[48]⟩).2 = (4001, 0) := by
  rcases f with _ | _ <;> kernel_rfl
theorem watch_put (f : Bool) {i : Nat} (h : i < 5) : (putN (watchI f i) (watchM (5001 + (i : Int)))).2 = 0 := by
  obtain rfl | rfl | rfl | rfl | rfl : i = 0 ∨ i = 1 ∨ i = 2 ∨ i = 3 ∨ i = 4 := by omega
  all_goals rcases f with _ | _ <;> kernel_rfl
theorem watch_out (f : Bool) {t : Nat} (h : 1 ≤ t ∧ t ≤ 5) : (watchE f t).out = (List.range t).map (downM f) := by
  obtain rfl | rfl | rfl | rfl | rfl : t = 1 ∨ t = 2 ∨ t = 3 ∨ t = 4 ∨ t = 5 := by omega
  all_goals rcases f with _ | _ <;> kernel_rfl
theorem watch_late (f : Bool) {t : Nat} (h : 1 ≤ t ∧ t ≤ 5) : (putN (outN (watchE f t)) (watchM 5001)).2 = 4 ∧ (putN (outN (watchE f t)) (watchM 5001)).1.out = [nobodyM] := by
  obtain rfl | rfl | rfl | rfl | rfl : t = 1 ∨ t = 2 ∨ t = 3 ∨ t = 4 ∨ t = 5 := by omega
  all_goals rcases f with _ | _ <;> exact ⟨by kernel_rfl, by kernel_rfl⟩
end Go.Proofs.YtjjfglbcikaicaaGreat
namespace Go.Proofs.YtjjfglbcikaicaaGreat
open Go.RowKit Go.ChangeShapes Go.WideShapes
set_option linter.unusedVariables false
set_option linter.unusedSimpArgs false
theorem watchS_wf (k : Int) : ∀ l, l ∈ [watchS k] → StpsWf l := fun l hl => by
  rw [List.mem_singleton] at hl
  subst hl
  intro s hs
  simp [watchS] at hs
  rcases hs with rfl | rfl
  · exact ⟨wf0, show Wf (-1) from Wf.of (by decide) (by decide)⟩
  · exact ⟨wf0, wf0⟩
/-- a letter without a value -/
theorem plain_isL (k f t n : Int) (s : ByteArray) (w : World) (S : Nat → Prop) : (⟨k, f, t, n, s, vLeaf 0 0⟩ : LT).isL w S [.int .i64 k, .int .i64 f, .int .i64 t, .int .i64 n, .string s, .int .i64 0, .int .i64 0, .string ⟨#[]⟩, .slice none 0 0] := ⟨_, _, _, none, 0, 0, rfl, leaf_V w S _ _⟩
theorem plain_wf {k f t n : Int} {s : ByteArray} (hf : Wf f) (ht : Wf t) (hn : Wf n) : LtWf ⟨k, f, t, n, s, vLeaf 0 0⟩ := ⟨hf, ht, hn, ⟨⟨by omega, by omega⟩, fun i hi => by omega⟩, by simp [vLeaf, VT.many, sumTo]⟩
/-- one letter that was just built -/
theorem rdL_one {w W : World} {t : TypeId} {l : LT} {cs : List Value} (hW : W = w.alloc (.cells cs.toArray t)) (h : l.isL W (fun _ => True) cs) : RdL W (fun _ => True) (some ⟨w.heap.size, 0, none⟩) 1 (fun _ => l) := fun _ => ⟨w.heap.size, 0, rfl, by rw [hW]; simp, trivial, fun _ => cs, fun i hi => ⟨h, fun j u hu => by
  obtain rfl : i = 0 := by omega
  have := cell_newL w cs t _ rfl j u hu
  rw [Addr.add_lit, Nat.zero_add] at this
  rw [hW, Nat.zero_mul, Nat.zero_add]
  exact this⟩⟩
set_option maxRecDepth 100000 in
set_option maxHeartbeats 16000000 in
theorem nodeWatches_walk {H : Type} {enc : TypeId × Value → H} (W : World) (base : Nat) (v0 v1 : Value) {d0 d1 : DataW H} {p0 p1 : List MemPlace}
    (k0 : Value.okWide Tryz.prog W .any base 4 v0) (k1 : Value.okWide Tryz.prog W .any base 3 v1)
    (h0 : DataW.Trod enc Tryz.prog W 0 (fun _ => true) true 4 v0 d0 p0) (h1 : DataW.Trod enc Tryz.prog W 0 (fun _ => true) true 3 v1 d1 p1) :
    Calls Tryz.prog 4 #[v0, v1] W fun e W' => e = .returned (.bool true) ∧ Below W.heap.size W W' := by
  obtain ⟨f, rfl, _⟩ := open_bool Tryz.underlying4 k0 h0
  obtain ⟨i, rfl, _, _, _⟩ := open_int Tryz.underlying3 k1 h1
  clear k0 k1 h0 h1
  have hwrap := wrap_rem i 5 (by omega) (by omega)
  obtain ⟨k, hk, hk5⟩ : ∃ k : Nat, ((IntKind.u64.wrap i).tmod ((5 : Nat) : Int)).toNat = k ∧ k < 5 := by
    refine ⟨_, rfl, ?_⟩
    obtain ⟨g0, g1⟩ := u64_wrap_range i
    rw [Int.tmod_eq_emod_of_nonneg g0]
    omega
  rw [hk] at hwrap
  have HWRAP := Lib.hid hwrap
  obtain ⟨t, ht⟩ : ∃ t : Nat, t = 1 + k := ⟨_, rfl⟩
  have ht5 : 1 ≤ t ∧ t ≤ 5 := by omega
  have HT := Lib.hid ht
  have HT5 := Lib.hid ht5
  clear hwrap hk
  go_enter Tryz.func4, Tryz.ntmps4
  go_wp2_with fail
  refine (nodes_any W).mono ?_
  rintro e w1 ⟨rfl, hb1⟩
  have HB1 := Lib.hid hb1
  clear hb1
  have hw2 : wrap64 (1 + wrap64 ((IntKind.u64.wrap i).tmod 5)) = (t : Int) := by
    have h := HWRAP.out
    have h' : wrap64 ((IntKind.u64.wrap i).tmod 5) = (k : Int) := h
    rw [h', HT.out]
    unfold wrap64
    omega
  have HW2 := Lib.hid hw2
  clear hw2 ht
  go_upto_if 23 with (fail)
  rw [HW2.out]
  go_cut [] (fun wx => wx.cell? ⟨w1.heap.size, 0, none⟩ = some (.int .i64 (lastK f)) ∧ wx.cell? ⟨w1.heap.size, 1, none⟩ = some (.int .i64 0) ∧ wx.cell? ⟨w1.heap.size, 2, none⟩ = some (.int .i64 0) ∧ wx.cell? ⟨w1.heap.size, 3, none⟩ = some (.slice none 0 0) ∧ Hid (Below w1.heap.size w1 wx) ∧ w1.heap.size < wx.heap.size)
  case first =>
    rcases f with _ | _
    · go_wp2_with fail
      go_meet
      exact ⟨by simp [go_sem, lastK], by simp [go_sem], by simp [go_sem], by simp [go_sem], Lib.hid ((Below.refl _ _).alloc (Nat.le_refl _) _), by simp⟩
    · go_wp2_with fail
      go_meet
      exact ⟨by simp [go_sem, lastK], by simp [go_sem], by simp [go_sem], by simp [go_sem], Lib.hid ((Below.refl _ _).alloc (Nat.le_refl _) _), by simp⟩
  case rest =>
    obtain ⟨y0, y1, y2, y3, HBx, hlt⟩ := hcut
    have hsz1 := HB1.out.size
    have hbx : Below W.heap.size W wc := HB1.out.trans (HBx.out.mono hsz1)
    have HBX := Lib.hid hbx
    obtain ⟨W2, hW2⟩ : ∃ W2, W2 = (wc.alloc (.cells #[.int .i64 6, .int .i64 0, .int .i64 (-1), .slice none 0 0, .int .i64 (lastK f), .int .i64 0, .int .i64 0, .slice none 0 0] 28)).alloc (.cells #[.slice (some ⟨wc.heap.size, 0, none⟩) 2 2] 29) := ⟨_, rfl⟩
    have hb2 : Below wc.heap.size wc W2 := by rw [hW2]; exact ((Below.refl _ _).alloc (Nat.le_refl _) _).alloc (by simp) _
    have HB2 := Lib.hid (hbx.trans (hb2.mono hbx.size))
    have hz2 : W2.heap.size = wc.heap.size + 2 := by rw [hW2]; simp
    have hscr : ScrsAt W2 (wc.heap.size + 2) (some ⟨wc.heap.size + 1, 0, none⟩) 1 [watchS (lastK f)] := by
      refine scrs_one (b := wc.heap.size + 1) (A := some ⟨wc.heap.size, 0, none⟩) (l := watchS (lastK f)) (vo := fun _ => .slice none 0 0) (n := 2) (c := 2) rfl (by omega) (by rw [hW2]; simp [go_sem]) (scrAt_new (n := 2) rfl (by omega) (by omega) (fun j u hu => ?_) (fun k hk => ?_))
      · rw [hW2]
        have h := cell_newL wc (flatC (stC (watchS (lastK f)) (fun _ => .slice none 0 0)) 2) 28 _ rfl j u hu
        rw [Addr.add_lit, Nat.zero_add] at h
        exact (World.cell?_alloc_lt _ _ ⟨wc.heap.size, j, none⟩ (by simp)).trans h
      · have hk' : k < 2 := hk
        obtain rfl | rfl : k = 0 ∨ k = 1 := by omega
        all_goals exact numAt_nil _ _
    have hszx := hbx.size
    have HNEW := Lib.hid (new_any (fun _ => False) (wc.heap.size + 2) 4 _ 1 [watchS (lastK f)] 10 W2 (fun _ h => h.elim) (by omega) hscr (watchS_wf _) ⟨by omega, by omega⟩ ⟨by omega, by omega⟩)
    have HWW := Lib.hid hW2
    clear hW2 hb2 hscr hbx
    go_wp2_with fail
    rw [← HWW.out]
    refine HNEW.out.mono ?_
    rintro e w3 ⟨p, P, rfl, hp, hf3, hn3⟩
    have HSP := Lib.hid (spawn_any 48 (hn3.up (T' := 1000) (by omega)) (by show 0 + 201 * 0 + 201 ≤ 1000; omega) (by omega))
    have HG3 := Lib.hid (show Fr (fun k => W.heap.size ≤ k) W w3 from (Fr.of_below HB2.out).trans (hf3.weak (S2 := fun _ => False) (fun _ h => h)) (fun k hk => hk.elim))
    have HLO := Lib.hid (show ∀ k, (fun k => W2.heap.size ≤ k ∧ k < w3.heap.size) k → W.heap.size ≤ k from fun k hk => by have := hk.1; omega)
    have hS2 := watch_spawn f
    have HI0 := Lib.hid (show (spawnN (newN 4 [watchS (lastK f)] 10) ⟨#[48]⟩).1 = watchI f 0 from rfl)
    rw [HI0.out] at HSP
    have e1 : (spawnN (newN 4 [watchS (lastK f)] 10) ⟨#[48]⟩).2.1 = 4001 := by rw [hS2]
    have e2 : (spawnN (newN 4 [watchS (lastK f)] 10) ⟨#[48]⟩).2.2 = 0 := by rw [hS2]
    rw [e1, e2] at HSP
    clear hn3 hf3 HNEW e1 e2 hS2 HI0 y0 y1 y2 y3 HWW HB2 HBX HBx HB1 HWRAP
    go_wp2_with fail
    refine HSP.out.mono ?_
    rintro e w4 ⟨P4, -, rfl, X4, M4, hg4, hn4⟩
    have HN4 := Lib.hid hn4
    have HG4 := Lib.hid (show Fr (fun k => W.heap.size ≤ k) W w4 from HG3.out.trans (hg4.fr.weak (fun k hk => HLO.out k hk)) (fun k hk => .inl hk))
    have HM4 := Lib.hid (show ∀ k, M4 k → W.heap.size ≤ k from fun k hk => by
      rcases hg4.ms k hk with h | h
      · exact HLO.out k h
      · have := HG3.out.size; omega)
    clear hg4 hn4 HSP HG3 HLO
    go_wp2_with fail
    go_loopw [9, 44] (fun _ v44 wr => ∃ (j : Nat) (Xj Mj : Nat → Prop), j ≤ t ∧ v44 = .int .i64 (j : Int) ∧ Hid (Gr X4 M4 w4 Xj Mj wr) ∧ Hid (NodeAt wr Xj Mj (wc.heap.size + 2) (1000 + j) p P4 (watchI f j))) (fun _ v44 _ => t - (intOf v44).toNat)
    case atStart => exact ⟨0, X4, M4, Nat.zero_le _, rfl, Lib.hid (Gr.refl _ _ _), HN4⟩
    case round =>
      obtain ⟨j, Xj, Mj, hj, rfl, HGj, HNj⟩ := hrel
      by_cases hlt2 : j < t
      · have HPJ := Lib.hid (put_any (watchM (5001 + (j : Int))) _ (fun _ => True) HNj.out (plain_isL 3 (5001 + (j : Int)) 4001 0 ⟨#[]⟩ wr _) (plain_wf (Wf.of (by omega) (by omega)) (Wf.of (by decide) (by decide)) wf0) (by omega))
        have HPE := Lib.hid (watch_put f (i := j) (by omega))
        rw [HPE.out] at HPJ
        go_wp2_with fail
        refine HPJ.out.mono ?_
        rintro e w5 ⟨rfl, X5, M5, hg5, hn5⟩
        have HG5 := Lib.hid (HGj.out.trans hg5)
        have HN5 := Lib.hid hn5
        clear hg5 hn5 HPJ HPE
        go_wp2_with fail
        go_roundw
        case rel => exact ⟨j + 1, X5, M5, by omega, by go_num, HG5, HN5⟩
        case measure => simp [intOf]; omega
      · obtain rfl : j = t := by omega
        have HT5' := Lib.hid (turn_any HNj.out (by omega))
        clear HNj
        go_wp2_with fail
        refine HT5'.out.mono ?_
        rintro e w7 ⟨rfl, P7, X7, M7, hg7, hn7⟩
        have HG7 := Lib.hid (HGj.out.trans hg7)
        have HP8 := Lib.hid (put_any (msgTo 4001) _ (fun _ => True) hn7 (plain_isL 1 0 4001 0 ⟨#[]⟩ w7 _) (plain_wf wf0 (Wf.of (by decide) (by decide)) wf0) (by omega))
        clear hg7 hn7 HT5' HGj
        go_wp2_with fail
        refine HP8.out.mono ?_
        rintro e w8 ⟨rfl, X8, M8, hg8, hn8⟩
        have HG8 := Lib.hid (HG7.out.trans hg8)
        have HT9 := Lib.hid (turn_any hn8 (by omega))
        clear hg8 hn8 HP8 HG7
        go_wp2_with fail
        refine HT9.out.mono ?_
        rintro e w9 ⟨rfl, P9, X9, M9, hg9, hn9⟩
        have HG9 := Lib.hid (HG8.out.trans hg9)
        have HO10 := Lib.hid (out_any hn9)
        have HOUT := Lib.hid (show (turnN (putN (turnN (watchI f j)).1 (msgTo 4001)).1).1.out = (List.range j).map (downM f) from watch_out f HT5.out)
        have HLATE := Lib.hid (watch_late f HT5.out)
        unfold watchE at HLATE
        generalize (turnN (putN (turnN (watchI f j)).1 (msgTo 4001)).1).1 = N9 at *
        unfold OutPost at HO10
        have hlen : N9.out.length = j := by rw [HOUT.out]; simp
        rw [hlen] at HO10
        clear hg9 hn9 HT9 HG8 hlen
        go_wp2_with fail
        refine HO10.out.mono ?_
        rintro e w10 ⟨A, c, S, M10, rfl, k1, k2, hrd, hSM, hg10, hn10⟩
        have HG10 := Lib.hid (HG9.out.trans hg10)
        have HN10 := Lib.hid hn10
        have HRD := Lib.hid hrd
        clear hg10 hn10 HO10 HG9 hrd hSM
        go_wp2_with fail
        go_loopw [11, 12, 13, 71] (fun _ _ _ v71 wr => ∃ q : Nat, q ≤ j ∧ v71 = .int .i64 (q : Int) ∧ Hid (Below w10.heap.size w10 wr)) (fun _ _ _ v71 _ => j - (intOf v71).toNat)
        case atStart => exact ⟨0, Nat.zero_le _, rfl, Lib.hid (Below.refl _ _)⟩
        case round =>
          obtain ⟨q, hq, rfl, HBq⟩ := hrel
          by_cases hlt3 : q < j
          · obtain ⟨b, off, rfl, hb, hSb, C, hC⟩ := HRD.out (by omega)
            obtain ⟨hL, hcell⟩ := hC q hlt3
            have hnth : nthL N9.out q = downM f q := by
              rw [HOUT.out]
              unfold nthL
              rw [List.getD_eq_getElem?_getD]
              simp [hlt3]
            rw [hnth] at hL
            have hLr := isL_below hL HBq.out
            obtain ⟨⟨⟨r1, r2, r3⟩, r4, r5, r6⟩, hQ⟩ := isL_ex hL
            dsimp only at hQ
            rw [hQ] at hcell hLr
            have HLR := Lib.hid hLr
            have c0 : wr.cell? ⟨b, off + q * 9, none⟩ = _ := (HBq.out.cell (p := ⟨b, _, none⟩) hb).trans (hcell 0 _ rfl)
            have c1 : wr.cell? ⟨b, off + q * 9 + 1, none⟩ = _ := (HBq.out.cell (p := ⟨b, _, none⟩) hb).trans (hcell 1 _ rfl)
            have c2 : wr.cell? ⟨b, off + q * 9 + 2, none⟩ = _ := (HBq.out.cell (p := ⟨b, _, none⟩) hb).trans (hcell 2 _ rfl)
            have c3 : wr.cell? ⟨b, off + q * 9 + 3, none⟩ = _ := (HBq.out.cell (p := ⟨b, _, none⟩) hb).trans (hcell 3 _ rfl)
            have c4 : wr.cell? ⟨b, off + q * 9 + 4, none⟩ = _ := (HBq.out.cell (p := ⟨b, _, none⟩) hb).trans (hcell 4 _ rfl)
            have c5 : wr.cell? ⟨b, off + q * 9 + 5, none⟩ = _ := (HBq.out.cell (p := ⟨b, _, none⟩) hb).trans (hcell 5 _ rfl)
            have c6 : wr.cell? ⟨b, off + q * 9 + 6, none⟩ = _ := (HBq.out.cell (p := ⟨b, _, none⟩) hb).trans (hcell 6 _ rfl)
            have c7 : wr.cell? ⟨b, off + q * 9 + 7, none⟩ = _ := (HBq.out.cell (p := ⟨b, _, none⟩) hb).trans (hcell 7 _ rfl)
            have c8 : wr.cell? ⟨b, off + q * 9 + 8, none⟩ = _ := (HBq.out.cell (p := ⟨b, _, none⟩) hb).trans (hcell 8 _ rfl)
            have i1 : (0 : Int) ≤ (q : Int) := by omega
            have i2 : (q : Int) < (j : Int) := by omega
            have hzb := HBq.out.size
            have hbr : b < wr.heap.size := by omega
            clear hL hcell hLr hQ hC hnth
            have HSR := Lib.hid (show sameLB (downM f q) (downM f q) = true from sameLB_refl HLR.out)
            rcases f with _ | _
            · have HSM := Lib.hid (fun (W2 : World) (hb2 : Below wr.heap.size wr W2) => sameL_any (downM false q) (downM false q) _ [.int .i64 2, .int .i64 4001, .int .i64 (5001 + (q : Int)), .int .i64 0, .string ⟨#[]⟩, .int .i64 0, .int .i64 0, .string ⟨#[]⟩, .slice none 0 0] S (fun _ => True) W2 (isL_below HLR.out hb2) (plain_isL 2 4001 (5001 + (q : Int)) 0 ⟨#[]⟩ W2 _))
              rw [HSR.out] at HSM
              clear HLR HSR
              generalize downM false q = dm at *
              go_wp2_with fail
              refine (HSM.out _ (by repeat' first | exact Below.refl _ _ | (refine Below.alloc ?_ (by simp) _))).mono ?_
              rintro e w12 ⟨rfl, hb12⟩
              have HB12 := Lib.hid (show Below wr.heap.size wr w12 from (show Below wr.heap.size wr _ by repeat' first | exact Below.refl _ _ | (refine Below.alloc ?_ (by simp) _)).trans (hb12.mono (by simp; omega)))
              clear hb12 HSM
              go_wp2_with fail
              go_roundw
              case rel => exact ⟨q + 1, by omega, by go_num, Lib.hid (HBq.out.trans (HB12.out.mono hzb))⟩
              case measure => simp [intOf]; omega
            · have HSM := Lib.hid (fun (W2 : World) (hb2 : Below wr.heap.size wr W2) => sameL_any (downM true q) (downM true q) _ [.int .i64 2, .int .i64 4001, .int .i64 (5001 + (q : Int)), .int .i64 1, .string ⟨#[102]⟩, .int .i64 0, .int .i64 0, .string ⟨#[]⟩, .slice none 0 0] S (fun _ => True) W2 (isL_below HLR.out hb2) (plain_isL 2 4001 (5001 + (q : Int)) 1 ⟨#[102]⟩ W2 _))
              rw [HSR.out] at HSM
              clear HLR HSR
              generalize downM true q = dm at *
              go_wp2_with fail
              refine (HSM.out _ (by repeat' first | exact Below.refl _ _ | (refine Below.alloc ?_ (by simp) _))).mono ?_
              rintro e w12 ⟨rfl, hb12⟩
              have HB12 := Lib.hid (show Below wr.heap.size wr w12 from (show Below wr.heap.size wr _ by repeat' first | exact Below.refl _ _ | (refine Below.alloc ?_ (by simp) _)).trans (hb12.mono (by simp; omega)))
              clear hb12 HSM
              go_wp2_with fail
              go_roundw
              case rel => exact ⟨q + 1, by omega, by go_num, Lib.hid (HBq.out.trans (HB12.out.mono hzb))⟩
              case measure => simp [intOf]; omega
          · obtain rfl : q = j := by omega
            have hfq : Fr (fun _ => False) w10 wr := Fr.of_below HBq.out
            have HPL := Lib.hid (put_any (watchM 5001) _ (fun _ => True) (HN10.out.new hfq (fun _ h => h)) (plain_isL 3 5001 4001 0 ⟨#[]⟩ wr _) (plain_wf (Wf.of (by decide) (by decide)) (Wf.of (by decide) (by decide)) wf0) (by omega))
            rw [HLATE.out.1] at HPL
            have HGQ := Lib.hid (HG10.out.trans (Gr.new hfq))
            clear hfq HRD HG10 HN10
            go_wp2_with fail
            refine HPL.out.mono ?_
            rintro e w13 ⟨rfl, X13, M13, hg13, hn13⟩
            have HG13 := Lib.hid (HGQ.out.trans hg13)
            have HO14 := Lib.hid (out_any hn13)
            have hl2 := HLATE.out.2
            generalize (putN (outN N9) (watchM 5001)).1 = N13 at *
            unfold OutPost at HO14
            rw [hl2] at HO14
            clear hg13 hn13 HPL HGQ hl2
            go_wp2_with fail
            refine HO14.out.mono ?_
            rintro e w14 ⟨A4, c4, S4, M14, rfl, _, _, hrd4, -, hg14, -⟩
            have HG14 := Lib.hid (HG13.out.trans hg14)
            have HRD4 := Lib.hid hrd4
            clear hg14 HO14 HG13 hrd4
            go_wp2_with fail
            obtain ⟨W15, hW15⟩ : ∃ W15, W15 = w14.alloc (.cells #[.int .i64 2, .int .i64 4001, .int .i64 5001, .int .i64 2, .string ⟨#[]⟩, .int .i64 0, .int .i64 0, .string ⟨#[]⟩, .slice none 0 0] 43) := ⟨_, rfl⟩
            have hf15 : Fr (fun _ => False) w14 W15 := by rw [hW15]; exact (Fr.refl _ _).alloc _
            have HSL := Lib.hid (sameLs_any 1 1 c4 1 A4 (some ⟨w14.heap.size, 0, none⟩) (nthL [nobodyM]) (fun _ => nobodyM) S4 (fun _ => True) W15 (by omega) (by omega) (HRD4.out.frame hf15.size (fun k hk hlt => ⟨hk, hf15.block k hlt (fun h => h)⟩)) (rdL_one (cs := [.int .i64 2, .int .i64 4001, .int .i64 5001, .int .i64 2, .string ⟨#[]⟩, .int .i64 0, .int .i64 0, .string ⟨#[]⟩, .slice none 0 0]) hW15 (plain_isL 2 4001 5001 2 ⟨#[]⟩ W15 _)))
            have HSR := Lib.hid (show ((1 : Nat) == 1 && allTo (fun i => sameLB (nthL [nobodyM] i) nobodyM) 1) = true from by
              have e : sameLB nobodyM nobodyM = true := sameLB_refl (plain_isL 2 4001 5001 2 ⟨#[]⟩ w14 (fun _ => True))
              simp [allTo, nthL, e])
            have HF15 := Lib.hid hf15
            rw [← hW15]
            clear hW15 hf15
            refine HSL.out.mono ?_
            rintro e w16 ⟨rfl, hb16⟩
            rw [HSR.out]
            have HB16 := Lib.hid hb16
            clear hb16 HSL
            go_wp2_with fail
            refine bodyPost_ret (v := .bool true) (by simp [results, Tryz.results4, go_sem]) rfl ⟨rfl, ?_⟩
            have h2 : Fr (fun k => W.heap.size ≤ k) W w14 := HG4.out.trans (HG14.out.fr.weak (fun k hk => HM4.out k hk)) (fun k hk => .inl hk)
            exact (h2.trans ((HF15.out.trans' (Fr.of_below HB16.out)).weak (S2 := fun k => W.heap.size ≤ k) (fun _ h => h.elim)) (fun k hk => .inl hk)).below (fun k hk => hk) (Nat.le_refl _)
end Go.Proofs.YtjjfglbcikaicaaGreat
