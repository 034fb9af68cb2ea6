/- The law NodeHome on nodes as data. The walk of the law NodeHome. -/
import Derived.Test.YtjjfglbcikaicaaGreatMI
import Derived.Test.YtjjfglbcikaicaaGreatME
import Derived.Test.YtjjfglbcikaicaaGreatMB
import Derived.Test.YtjjfglbcikaicaaGreatOpen
namespace Go.Proofs.YtjjfglbcikaicaaGreat
open Go.RowKit
set_option linter.unusedVariables false
def sentM (N : NdS) (r : Int) : NdS := match N.find r with
  | none => N
  | some a => (N.setA (goA a).1).setA (ranA N a)
def homeS (ref : Int) : List Stp := [⟨6, 0, -1, []⟩, ⟨2, ref, 5, []⟩, ⟨6, 0, -1, []⟩]
def msgTo (me : Int) : LT := ⟨1, 0, me, 0, ⟨#[]⟩, vLeaf 0 0⟩
def fiveTo (me ref : Int) : LT := ⟨1, me, ref, 0, ⟨#[]⟩, vLeaf 2 5⟩
def homeN1 (id ref a b : Int) : NdS := homeN (homeN (spawnN (newN id [homeS ref] 10) ⟨#[48]⟩).1 ref a) ref b
def homeN3 (id me ref a b : Int) : NdS := { (putN (turnN (homeN1 id ref a b)).1 (msgTo me)).1 with last := me }
def homeE (id me ref a b : Int) : NdS := (turnN (putN (turnN (homeN1 id ref a b)).1 (msgTo me)).1).1
theorem sendN_out {M : NdS} {x : LT} {id b : Int} {f : Int → Option Int} (h1 : M.has x.to = false) (h2 : M.homes = f) (h3 : f x.to = some b) (hi : M.id = id) (hk : x.kind = 1) : sendN M x = if b < 1 ∨ 8 < b ∨ b = id then M else { M with out := M.out ++ [x] } := by
  have hl : locN M x.to = if b < 1 ∨ 8 < b then id else b := by
    unfold locN
    rw [h2, h3, hi]
    rfl
  have hr : replyW rem60 M x = M := by
    unfold replyW noneL
    rw [if_neg (by omega), if_neg (by omega)]
  unfold sendN sendW
  rw [if_neg (by rw [h1]; decide), hl, hr, hi]
  by_cases e1 : b < 1 ∨ 8 < b
  · rw [if_pos e1, if_neg (fun h => h rfl), if_pos (by omega)]
  · rw [if_neg e1]
    by_cases e2 : b = id
    · rw [if_neg (fun h => h e2), if_pos (by omega)]
    · rw [if_pos e2, if_neg (by omega)]
theorem home_end {N M : NdS} {me ref b id : Int} {f : Int → Option Int} (he : N = loopN 9 (sendN M (fiveTo me (if ref = 0 then me else if ref = -1 then 0 else ref))) me) (h0 : ref ≠ 0) (h9 : ref ≠ -1) (hr : M.acts.map (·.ref) = [me]) (hne : ref ≠ me) (h2 : M.homes = f) (h3 : f ref = some b) (hi : M.id = id)
    (e1 : (loopN 9 M me).out = []) (e2 : (loopN 9 { M with out := M.out ++ [fiveTo me ref] } me).out = [fiveTo me ref]) : N.out = if b < 1 ∨ 8 < b ∨ b = id then [] else [fiveTo me ref] := by
  have hh : M.has (fiveTo me ref).to = false := by
    rw [← Bool.not_eq_true, has_iff]
    rintro ⟨a, ha, e⟩
    have : a.ref ∈ M.acts.map (·.ref) := List.mem_map_of_mem ha
    rw [hr, List.mem_singleton] at this
    exact hne (e.symm.trans this)
  rw [if_neg h0, if_neg h9] at he
  rw [he, sendN_out hh h2 h3 hi rfl]
  split
  · exact e1
  · exact e2
theorem homes_at (id ref a b : Int) : (homeN1 id ref a b).homes ref = some b := by
  unfold homeN1
  exact if_pos rfl
theorem home_spawn {id : Int} (h : 1 ≤ id ∧ id ≤ 8) (ref : Int) : (spawnN (newN id [homeS ref] 10) ⟨#[48]⟩).2 = (id * 1000 + 1, 0) := by
  obtain rfl | rfl | rfl | rfl | rfl | rfl | rfl | rfl : id = 1 ∨ id = 2 ∨ id = 3 ∨ id = 4 ∨ id = 5 ∨ id = 6 ∨ id = 7 ∨ id = 8 := by omega
  all_goals kernel_rfl
set_option maxRecDepth 100000 in
theorem home_out {id : Int} (h : 1 ≤ id ∧ id ≤ 8) {me : Int} (hme : me = id * 1000 + 1) {ref : Int} (hne : ref ≠ me) (h0 : ref ≠ 0) (h9 : ref ≠ -1) (a b : Int) : (homeE id me ref a b).out = if b < 1 ∨ 8 < b ∨ b = id then [] else [fiveTo me ref] := by
  obtain rfl | rfl | rfl | rfl | rfl | rfl | rfl | rfl : id = 1 ∨ id = 2 ∨ id = 3 ∨ id = 4 ∨ id = 5 ∨ id = 6 ∨ id = 7 ∨ id = 8 := by omega
  · obtain rfl : me = 1001 := by omega
    exact home_end (M := sentM (homeN3 1 1001 ref a b) 1001) (f := (homeN1 1 ref a b).homes) (by kernel_rfl) h0 h9 (by kernel_rfl) hne (by kernel_rfl) (homes_at _ _ _ _) (by kernel_rfl) (by kernel_rfl) (by kernel_rfl)
  · obtain rfl : me = 2001 := by omega
    exact home_end (M := sentM (homeN3 2 2001 ref a b) 2001) (f := (homeN1 2 ref a b).homes) (by kernel_rfl) h0 h9 (by kernel_rfl) hne (by kernel_rfl) (homes_at _ _ _ _) (by kernel_rfl) (by kernel_rfl) (by kernel_rfl)
  · obtain rfl : me = 3001 := by omega
    exact home_end (M := sentM (homeN3 3 3001 ref a b) 3001) (f := (homeN1 3 ref a b).homes) (by kernel_rfl) h0 h9 (by kernel_rfl) hne (by kernel_rfl) (homes_at _ _ _ _) (by kernel_rfl) (by kernel_rfl) (by kernel_rfl)
  · obtain rfl : me = 4001 := by omega
    exact home_end (M := sentM (homeN3 4 4001 ref a b) 4001) (f := (homeN1 4 ref a b).homes) (by kernel_rfl) h0 h9 (by kernel_rfl) hne (by kernel_rfl) (homes_at _ _ _ _) (by kernel_rfl) (by kernel_rfl) (by kernel_rfl)
  · obtain rfl : me = 5001 := by omega
    exact home_end (M := sentM (homeN3 5 5001 ref a b) 5001) (f := (homeN1 5 ref a b).homes) (by kernel_rfl) h0 h9 (by kernel_rfl) hne (by kernel_rfl) (homes_at _ _ _ _) (by kernel_rfl) (by kernel_rfl) (by kernel_rfl)
  · obtain rfl : me = 6001 := by omega
    exact home_end (M := sentM (homeN3 6 6001 ref a b) 6001) (f := (homeN1 6 ref a b).homes) (by kernel_rfl) h0 h9 (by kernel_rfl) hne (by kernel_rfl) (homes_at _ _ _ _) (by kernel_rfl) (by kernel_rfl) (by kernel_rfl)
  · obtain rfl : me = 7001 := by omega
    exact home_end (M := sentM (homeN3 7 7001 ref a b) 7001) (f := (homeN1 7 ref a b).homes) (by kernel_rfl) h0 h9 (by kernel_rfl) hne (by kernel_rfl) (homes_at _ _ _ _) (by kernel_rfl) (by kernel_rfl) (by kernel_rfl)
  · obtain rfl : me = 8001 := by omega
    exact home_end (M := sentM (homeN3 8 8001 ref a b) 8001) (f := (homeN1 8 ref a b).homes) (by kernel_rfl) h0 h9 (by kernel_rfl) hne (by kernel_rfl) (homes_at _ _ _ _) (by kernel_rfl) (by kernel_rfl) (by kernel_rfl)
end Go.Proofs.YtjjfglbcikaicaaGreat
namespace Go.Proofs.YtjjfglbcikaicaaGreat
open Go.RowKit Go.ChangeShapes Go.WideShapes
set_option linter.unusedVariables false
set_option linter.unusedSimpArgs false
theorem homeS_wf {ref : Int} (h : Wf ref) : ∀ l, l ∈ [homeS ref] → StpsWf l := fun l hl => by
  rw [List.mem_singleton] at hl
  subst hl
  intro s hs
  simp [homeS] at hs
  rcases hs with rfl | rfl | rfl
  · exact ⟨wf0, show Wf (-1) from Wf.of (by decide) (by decide)⟩
  · exact ⟨h, show Wf 5 from Wf.of (by decide) (by decide)⟩
  · exact ⟨wf0, show Wf (-1) from Wf.of (by decide) (by decide)⟩
set_option maxRecDepth 100000 in
set_option maxHeartbeats 8000000 in
theorem nodeHome_walk {H : Type} {enc : TypeId × Value → H} (W : World) (base : Nat) (v0 v1 v2 v3 : Value) {d0 d1 d2 d3 : DataW H} {p0 p1 p2 p3 : List MemPlace}
    (k0 : Value.okWide Tryz.prog W .any base 3 v0) (k1 : Value.okWide Tryz.prog W .any base 3 v1) (k2 : Value.okWide Tryz.prog W .any base 3 v2) (k3 : Value.okWide Tryz.prog W .any base 3 v3)
    (h0 : DataW.Trod enc Tryz.prog W 0 (fun _ => true) true 3 v0 d0 p0) (h1 : DataW.Trod enc Tryz.prog W 0 (fun _ => true) true 3 v1 d1 p1)
    (h2 : DataW.Trod enc Tryz.prog W 0 (fun _ => true) true 3 v2 d2 p2) (h3 : DataW.Trod enc Tryz.prog W 0 (fun _ => true) true 3 v3 d3 p3) :
    Calls Tryz.prog 5 #[v0, v1, v2, v3] W fun e W' => e = .returned (.bool true) ∧ Below W.heap.size W W' := by
  obtain ⟨i, rfl, _, _, _⟩ := open_int Tryz.underlying3 k0 h0
  obtain ⟨ref, rfl, _, _, wr⟩ := open_int Tryz.underlying3 k1 h1
  obtain ⟨a, rfl, _, _, _⟩ := open_int Tryz.underlying3 k2 h2
  obtain ⟨b, rfl, _, _, _⟩ := open_int Tryz.underlying3 k3 h3
  have HWR := Lib.hid (show Wf ref from wr)
  clear k0 k1 k2 k3 h0 h1 h2 h3 wr
  have hwrap := wrap_rem i 8 (by omega) (by omega)
  obtain ⟨k, hk, hk8⟩ : ∃ k : Nat, ((IntKind.u64.wrap i).tmod ((8 : Nat) : Int)).toNat = k ∧ k < 8 := by
    refine ⟨_, rfl, ?_⟩
    obtain ⟨g0, g1⟩ := u64_wrap_range i
    rw [Int.tmod_eq_emod_of_nonneg g0]
    omega
  rw [hk] at hwrap
  have HWRAP := Lib.hid hwrap
  obtain ⟨id, hid⟩ : ∃ id : Int, id = 1 + (k : Int) := ⟨_, rfl⟩
  have hid8 : 1 ≤ id ∧ id ≤ 8 := by omega
  have HID := Lib.hid hid
  have HID8 := Lib.hid hid8
  clear hwrap hk
  go_enter Tryz.func5, Tryz.ntmps5
  go_wp2_with fail
  refine (nodes_any W).mono ?_
  rintro e w1 ⟨rfl, hb1⟩
  have HB1 := Lib.hid hb1
  clear hb1
  go_wp2_with fail
  have hw2 : wrap64 (1 + wrap64 ((IntKind.u64.wrap i).tmod 8)) = id := by
    have h := HWRAP.out
    have h' : wrap64 ((IntKind.u64.wrap i).tmod 8) = (k : Int) := h
    rw [h', HID.out]
    unfold wrap64
    omega
  rw [hw2]
  obtain ⟨W2, hW2⟩ : ∃ W2, W2 = (w1.alloc (.cells #[.int .i64 6, .int .i64 0, .int .i64 (-1), .slice none 0 0, .int .i64 2, .int .i64 ref, .int .i64 5, .slice none 0 0, .int .i64 6, .int .i64 0, .int .i64 (-1), .slice none 0 0] 28)).alloc (.cells #[.slice (some ⟨w1.heap.size, 0, none⟩) 3 3] 29) := ⟨_, rfl⟩
  rw [← hW2]
  have hb2 : Below w1.heap.size w1 W2 := by rw [hW2]; exact ((Below.refl _ _).alloc (Nat.le_refl _) _).alloc (by simp) _
  have HB2 := Lib.hid (HB1.out.trans (hb2.mono HB1.out.size))
  have hz2 : W2.heap.size = w1.heap.size + 2 := by rw [hW2]; simp
  have hscr : ScrsAt W2 (w1.heap.size + 2) (some ⟨w1.heap.size + 1, 0, none⟩) 1 [homeS ref] := by
    refine scrs_one (b := w1.heap.size + 1) (A := some ⟨w1.heap.size, 0, none⟩) (l := homeS ref) (vo := fun _ => .slice none 0 0) (n := 3) (c := 3) rfl (by omega) (by rw [hW2]; simp [go_sem]) (scrAt_new (n := 3) rfl (by omega) (by omega) (fun j u hu => ?_) (fun k hk => ?_))
    · rw [hW2]
      have h := cell_newL w1 (flatC (stC (homeS ref) (fun _ => .slice none 0 0)) 3) 28 _ rfl j u hu
      rw [Addr.add_lit, Nat.zero_add] at h
      exact (World.cell?_alloc_lt _ _ ⟨w1.heap.size, j, none⟩ (by simp)).trans h
    · have hk' : k < 3 := hk
      obtain rfl | rfl | rfl : k = 0 ∨ k = 1 ∨ k = 2 := by omega
      all_goals exact numAt_nil _ _
  have hsz1 := HB1.out.size
  have HNEW := Lib.hid (new_any (fun _ => False) (w1.heap.size + 2) id _ 1 [homeS ref] 10 W2 (fun _ h => h.elim) (by omega) hscr (homeS_wf HWR.out) HID8.out ⟨by omega, by omega⟩)
  clear hW2 hb2 hscr hid hid8 hw2
  refine HNEW.out.mono ?_
  rintro e w3 ⟨p, P, rfl, hp, hf3, hn3⟩
  have HF3 := Lib.hid hf3
  have HSP := Lib.hid (spawn_any 48 (hn3.up (T' := 1000) (by omega)) (by show 0 + 201 * 0 + 201 ≤ 1000; omega) (by omega))
  have HLO := Lib.hid (show ∀ k, (fun k => W2.heap.size ≤ k ∧ k < w3.heap.size) k → W.heap.size ≤ k from fun k hk => by have := hk.1; omega)
  have HS2 := Lib.hid (home_spawn HID8.out ref)
  generalize hN1 : (spawnN (newN id [homeS ref] 10) ⟨#[48]⟩) = S1 at *
  have HN1 := Lib.hid hN1
  obtain ⟨N1, r1, x1⟩ := S1
  have hS2 := HS2.out
  dsimp only at HSP hS2
  injection hS2 with e1 e2
  rw [e1, e2] at HSP
  clear hn3 hf3 HNEW HS2 e1 e2 hN1
  go_wp2_with fail
  refine HSP.out.mono ?_
  rintro e w4 ⟨P4, -, rfl, X4, M4, hg4, hn4⟩
  have HG4 := Lib.hid hg4
  have HN4 := Lib.hid hn4
  clear hg4 hn4 HSP
  obtain ⟨me, hme⟩ : ∃ me, me = id * 1000 + 1 := ⟨_, rfl⟩
  rw [← hme]
  have HME := Lib.hid hme
  clear hme
  have HGH := Lib.hid (show Fr (fun k => W.heap.size ≤ k) W w4 from ((Fr.of_below HB2.out).trans (HF3.out.weak (fun _ h => h.elim)) (fun k hk => .inl hk)).trans (HG4.out.fr.weak (fun k hk => HLO.out k hk)) (fun k hk => .inl hk))
  have HM4 := Lib.hid (show ∀ k, M4 k → W.heap.size ≤ k from fun k hk => by
    rcases HG4.out.ms k hk with h | h
    · exact HLO.out k h
    · have := HGH.out.size
      have h3 := HF3.out.size
      omega)
  have HPU := Lib.hid (show Fr (fun k => W.heap.size ≤ k) W w4 → Below W.heap.size W w4 from fun h => h.below (fun k hk => hk) (Nat.le_refl _))
  clear HG4 HLO HF3 HB2
  rcases q1 : (ref == me) with _ | _
  case true =>
    go_wp2_with fail
    refine bodyPost_ret (v := .bool true) (by simp [results, Tryz.results5, go_sem]) rfl ⟨rfl, HPU.out HGH.out⟩
  rcases q2 : (ref == 0) with _ | _
  case true =>
    go_wp2_with fail
    refine bodyPost_ret (v := .bool true) (by simp [results, Tryz.results5, go_sem]) rfl ⟨rfl, HPU.out HGH.out⟩
  rcases q3 : (ref == -1) with _ | _
  case true =>
    go_wp2_with fail
    refine bodyPost_ret (v := .bool true) (by simp [results, Tryz.results5, go_sem]) rfl ⟨rfl, HPU.out HGH.out⟩
  have HNE := Lib.hid (show ref ≠ me ∧ ref ≠ 0 ∧ ref ≠ -1 from ⟨by simpa using q1, by simpa using q2, by simpa using q3⟩)
  have HH1 := Lib.hid (home_any HN4.out ref a HWR.out (by omega))
  go_wp2_with fail
  refine HH1.out.mono ?_
  rintro e w5 ⟨rfl, X5, M5, hg5, hn5⟩
  have HH2 := Lib.hid (home_any hn5 ref b HWR.out (by omega))
  have HG5 := Lib.hid hg5
  clear hg5 hn5 HH1 HN4 q1 q2 q3
  go_wp2_with fail
  refine HH2.out.mono ?_
  rintro e w6 ⟨rfl, X6, M6, hg6, hn6⟩
  have HT7 := Lib.hid (turn_any hn6 (by omega))
  have HG6 := Lib.hid (HG5.out.trans hg6)
  clear hg6 hn6 HH2 HG5
  go_wp2_with fail
  refine HT7.out.mono ?_
  rintro e w7 ⟨rfl, P7, X7, M7, hg7, hn7⟩
  have HG7 := Lib.hid (HG6.out.trans hg7)
  have hwme : Wf me := by have := HME.out; have := HID8.out; exact Wf.of (by omega) (by omega)
  have HP8 := Lib.hid (put_any (msgTo me) [.int .i64 1, .int .i64 0, .int .i64 me, .int .i64 0, .string ⟨#[]⟩, .int .i64 0, .int .i64 0, .string ⟨#[]⟩, .slice none 0 0] (fun _ => True) hn7 ⟨_, _, _, none, 0, 0, rfl, leaf_V w7 _ _ _⟩ ⟨wf0, hwme, wf0, ⟨⟨by omega, by omega⟩, fun i hi => by omega⟩, by simp [msgTo, vLeaf, VT.many, sumTo]⟩ (by omega))
  clear hg7 hn7 HT7 HG6
  go_wp2_with fail
  refine HP8.out.mono ?_
  rintro e w8 ⟨rfl, X8, M8, hg8, hn8⟩
  have HG8 := Lib.hid (HG7.out.trans hg8)
  have HT9 := Lib.hid (turn_any hn8 (by omega))
  clear hg8 hn8 HP8 HG7
  go_wp2_with fail
  refine HT9.out.mono ?_
  rintro e w9 ⟨rfl, P9, X9, M9, hg9, hn9⟩
  have HG9 := Lib.hid (HG8.out.trans hg9)
  have HO10 := Lib.hid (out_any hn9)
  have HOUT := Lib.hid (show (turnN (putN (turnN (homeN (homeN N1 ref a) ref b)).1 (msgTo me)).1).1.out = if b < 1 ∨ 8 < b ∨ b = id then [] else [fiveTo me ref] from by
    have h := home_out HID8.out HME.out HNE.out.1 HNE.out.2.1 HNE.out.2.2 a b
    unfold homeE homeN1 at h
    rw [HN1.out] at h
    exact h)
  generalize (turnN (putN (turnN (homeN (homeN N1 ref a) ref b)).1 (msgTo me)).1).1 = N9 at *
  unfold OutPost at HO10
  clear hg9 hn9 HT9 HG8
  go_wp2_with fail
  refine HO10.out.mono ?_
  rintro e w10 ⟨A, c, S, M10, rfl, k1, k2, hrd, -, hg10, hn10⟩
  have HFIN := Lib.hid (show ∀ w', Fr (fun _ => False) w10 w' → Below W.heap.size W w' from fun w' hf => by
    have h1 := (HG9.out.trans hg10).fr
    have h2 : Fr (fun k => W.heap.size ≤ k) W w10 := HGH.out.trans (h1.weak (fun k hk => HM4.out k hk)) (fun k hk => .inl hk)
    exact (h2.trans (hf.weak (S2 := fun k => W.heap.size ≤ k) (fun _ h => h.elim)) (fun k hk => .inl hk)).below (fun k hk => hk) (Nat.le_refl _))
  clear hg10 hn10 HO10 HG9 HGH HM4 HPU
  by_cases hz : b < 1 ∨ 8 < b ∨ b = id
  · have h0 : N9.out.length = 0 := by rw [HOUT.out, if_pos hz]; rfl
    rw [h0]
    clear hrd h0 k1 k2 HOUT
    by_cases z1 : b < 1
    · have g1 : decide (b < 1) = true := decide_eq_true z1
      clear hz z1
      go_wp2_with fail
      refine bodyPost_ret (v := .bool true) (by simp [results, Tryz.results5, go_sem]) rfl ⟨rfl, HFIN.out _ (Fr.refl _ _)⟩
    · have g1 : decide (b < 1) = false := decide_eq_false z1
      by_cases z2 : 8 < b
      · have g2 : decide (8 < b) = true := decide_eq_true z2
        clear hz z1 z2
        go_wp2_with fail
        refine bodyPost_ret (v := .bool true) (by simp [results, Tryz.results5, go_sem]) rfl ⟨rfl, HFIN.out _ (Fr.refl _ _)⟩
      · have g2 : decide (8 < b) = false := decide_eq_false z2
        have g3 : (b == id) = true := by rcases hz with h | h | h <;> first | exact absurd h z1 | exact absurd h z2 | simpa using h
        clear hz z1 z2
        go_wp2_with fail
        refine bodyPost_ret (v := .bool true) (by simp [results, Tryz.results5, go_sem]) rfl ⟨rfl, HFIN.out _ (Fr.refl _ _)⟩
  · have g1 : decide (b < 1) = false := decide_eq_false (by omega)
    have g2 : decide (8 < b) = false := decide_eq_false (by omega)
    have g3 : (b == id) = false := by simp; omega
    have ho : N9.out = [fiveTo me ref] := by rw [HOUT.out, if_neg hz]
    rw [ho] at hrd
    have h1 : N9.out.length = 1 := by rw [ho]; rfl
    rw [h1]
    obtain ⟨W11, hW11⟩ : ∃ W11, W11 = w10.alloc (.cells #[.int .i64 1, .int .i64 me, .int .i64 ref, .int .i64 0, .string ⟨#[]⟩, .int .i64 2, .int .i64 5, .string ⟨#[]⟩, .slice none 0 0] 43) := ⟨_, rfl⟩
    have hf11 : Fr (fun _ => False) w10 W11 := by rw [hW11]; exact (Fr.refl _ _).alloc _
    have hL : ∀ w S, (fiveTo me ref).isL w S [.int .i64 1, .int .i64 me, .int .i64 ref, .int .i64 0, .string ⟨#[]⟩, .int .i64 2, .int .i64 5, .string ⟨#[]⟩, .slice none 0 0] := fun w S => ⟨_, _, _, none, 0, 0, rfl, leaf_V w S _ _⟩
    have HSL := Lib.hid (sameLs_any 1 1 c 1 A (some ⟨w10.heap.size, 0, none⟩) (nthL [fiveTo me ref]) (fun _ => fiveTo me ref) S (fun _ => True) W11 (by omega) (by omega) (hrd.frame hf11.size (fun k hk hlt => ⟨hk, hf11.block k hlt (fun h => h)⟩)) (fun _ => ⟨w10.heap.size, 0, rfl, by rw [hW11]; simp, trivial, fun _ => _, fun i hi => ⟨hL _ _, fun j u hu => by
      obtain rfl : i = 0 := by omega
      have := cell_newL w10 _ 43 _ rfl j u hu
      rw [Addr.add_lit, Nat.zero_add] at this
      rw [hW11, Nat.zero_mul, Nat.zero_add]
      exact this⟩⟩))
    have HSR := Lib.hid (show ((1 : Nat) == 1 && allTo (fun i => sameLB (nthL [fiveTo me ref] i) (fiveTo me ref)) 1) = true from by
      have e : sameLB (fiveTo me ref) (fiveTo me ref) = true := sameLB_refl (hL w10 (fun _ => True))
      simp [allTo, nthL, e])
    have HF11 := Lib.hid hf11
    have HW11 := Lib.hid hW11
    clear hrd ho h1 hW11 hf11 hL HOUT hz
    go_wp2_with fail
    rw [← HW11.out]
    refine HSL.out.mono ?_
    rintro e w12 ⟨rfl, hb12⟩
    rw [HSR.out]
    have HB12 := Lib.hid hb12
    clear hb12
    go_wp2_with fail
    refine bodyPost_ret (v := .bool true) (by simp [results, Tryz.results5, go_sem]) rfl ⟨rfl, HFIN.out _ (HF11.out.trans' (Fr.of_below HB12.out))⟩
end Go.Proofs.YtjjfglbcikaicaaGreat
