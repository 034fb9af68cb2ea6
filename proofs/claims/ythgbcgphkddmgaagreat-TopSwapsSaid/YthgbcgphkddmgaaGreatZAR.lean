/- An actor's own methods, told of the node. An actor is given a reference, and knows it; told of the node. What was said has grown. A step as one case of what an output makes of a node. Where a reference is taken to be; what nobody answers. -/
import Derived.Test.YthgbcgphkddmgaaGreatZAO
import Derived.Test.YthgbcgphkddmgaaGreatZAQ
import Derived.Test.YthgbcgphkddmgaaGreatZAL
import Derived.IntWalk
namespace Go.Proofs.YthgbcgphkddmgaaGreat
open Go.RowKit
set_option linter.unusedVariables false
set_option linter.unusedSimpArgs false
/-- a diary has turned -/
theorem ActG.setDia {w w' : World} {X X' MA : Nat → Prop} {base T T' p b rb kb : Nat} {ib ib' : Option Nat} {a : ActS} {d : DiaS} (H : ActG w X base T MA p b rb kb ib a) (hMX : ∀ k, MA k → X k) (hf : Fr (fun k => k = b ∨ k = rb ∨ ib = some k) w w') (hX : ∀ k, X' k → X k ∨ w.heap.size ≤ k) (hT : T ≤ T') (hib : ∀ k, ib' = some k → ib = some k ∨ w.heap.size ≤ k) (hd : DiaAt w' X' base T' b rb ib' d) : ActG w' X' base T' (fun k => MA k ∨ ib' = some k) p b rb kb ib' { a with d := d } := by
  obtain ⟨m1, m2, m3, m4, m5⟩ := H.mine
  obtain ⟨a1, a2, a3, a4, a5, a6⟩ := H.ap
  have hl := H.lt
  have hS : ∀ k, (k = b ∨ k = rb ∨ ib = some k) → X k := fun k hk => by
    rcases hk with h | h | h
    · exact h ▸ hMX b m2
    · exact h ▸ hMX rb m3
    · exact hMX k (m5 k h)
  have hp : ¬ (p = b ∨ p = rb ∨ ib = some p) := fun h => by
    rcases h with h | h | h
    · exact a1 h
    · exact a2 h
    · exact (a6 p h).1 rfl
  have hk : ¬ (kb = b ∨ kb = rb ∨ ib = some kb) := fun h => by
    rcases h with h | h | h
    · exact a4 h.symm
    · exact a5 h.symm
    · exact (a6 kb h).2 rfl
  obtain ⟨A2, c2, s1, s2, s3, s4⟩ := H.a2
  obtain ⟨n, k1, k2⟩ := H.kn
  exact {
    dia := hd
    a0 := hf.cell H.a0 hp
    a1 := hf.cell H.a1 hp
    a2 := ⟨A2, c2, hf.cell s1 hp, s2, s3, s4.fr hf hS hX⟩
    a3 := hf.cell H.a3 hp
    a4 := hf.cell H.a4 hp
    a5 := hf.cell H.a5 hp
    a6 := hf.cell H.a6 hp
    kn := ⟨n, k1.fr hf hk, by omega⟩
    fz := fun o => (hf.frozen hl.1 hp).trans (H.fz o)
    mine := ⟨.inl m1, .inl m2, .inl m3, .inl m4, fun k hk => .inr hk⟩
    ap := ⟨a1, a2, a3, a4, a5, fun k hk => by
      rcases hib k hk with h | h
      · exact a6 k h
      · exact ⟨by omega, by omega⟩⟩
    lbp := H.lbp }
/-- what an actor's method makes of the node -/
def ActNd (X M : Nat → Prop) (base T p : Nat) (P : Int → Nat) (N' : NdS) (w : World) (w' : World) : Prop :=
  ∃ X' M', Gr X M w X' M' w' ∧ NodeAt w' X' M' base T p P N'
theorem wake_nd {w : World} {X M : Nat → Prop} {base T p : Nat} {P : Int → Nat} {N : NdS} {r : Int} {a : ActS} (h : NodeAt w X M base T p P N) (ha : N.find r = some a) (hT : T + 1000000 ≤ 1000000000000) :
    Calls Tryz.prog 116 #[.pointer (some ⟨P r, 0, none⟩)] w fun e w' => e = .returned (.bool (wakeA a).2) ∧ ActNd X M base (T + 2000) p P (N.setA (wakeA a).1) w w' := by
  obtain ⟨hm, hr⟩ := find_some ha
  have hok := h.ok.act a hm
  obtain ⟨pa, b, rb, kb, ib, MA, mb, rfl, _, hA, hMA, _, hback⟩ := h.act ha
  refine (wake_any X base T MA (P r) b rb kb ib a w hA h.xlt (fun k hk => (h.2.2.1 k (hMA k hk).1).1) hok.box hT).mono ?_
  rintro e w' ⟨rfl, X', MA', g1, g2, g3, g4, g5, g6⟩
  obtain ⟨k1, k2, _⟩ := wakeA_ok hok
  obtain ⟨q1, q2⟩ := hback w' X' MA' (T + 2000) _ g1 g2 g3 g4 g5 g6 k2 k1 (by omega)
  exact ⟨rfl, X', _, q1, q2⟩
theorem wait_nd {w : World} {X M : Nat → Prop} {base T p : Nat} {P : Int → Nat} {N : NdS} {r : Int} {a : ActS} (tk : Int) (h : NodeAt w X M base T p P N) (ha : N.find r = some a) (h7 : a.d.dk = 7) (hT : T + 1000000 ≤ 1000000000000) :
    Calls Tryz.prog 121 #[.pointer (some ⟨P r, 0, none⟩), .int .i64 tk] w fun e w' => e = .returned (.tuple #[]) ∧ ActNd X M base (T + 100) p P (N.setA (waitA a tk)) w w' := by
  obtain ⟨hm, hr⟩ := find_some ha
  have hok := h.ok.act a hm
  obtain ⟨pa, b, rb, kb, ib, MA, mb, rfl, _, hA, hMA, _, hback⟩ := (h.up (show T ≤ T + 100 by omega)).act ha
  have hlb : base ≤ w.heap.size := by have := h.pM.2.2; have := h.p_lt; omega
  refine (wait_any X base (T + 100) MA (P r) b rb kb ib a tk w hA h.xlt (fun k hk => (h.2.2.1 k (hMA k hk).1).1) hok.box h7 (by omega) (by omega) hlb).mono ?_
  rintro e w' ⟨rfl, X', MA', g1, g2, g3, g4, g5, g6⟩
  obtain ⟨q1, q2⟩ := hback w' X' MA' (T + 100) _ g1 g2 g3 g4 g5 g6 rfl (waitA_ok hok h7 tk) (Nat.le_refl _)
  exact ⟨rfl, X', _, q1, q2⟩
/-- the diary of an actor of the node -/
theorem dia_nd {w : World} {X M : Nat → Prop} {base T p : Nat} {P : Int → Nat} {N : NdS} {r : Int} {a : ActS} (h : NodeAt w X M base T p P N) (ha : N.find r = some a) : ∃ b, w.cell? ⟨P r, 0, none⟩ = some (.pointer (some ⟨b, 0, none⟩)) ∧ P r < w.heap.size ∧ w.cell? ⟨P r, 1, none⟩ = some (.int .i64 r) ∧ w.cell? ⟨P r, 3, none⟩ = w.cell? ⟨P r, 3, none⟩ ∧ w.cell? ⟨P r, 4, none⟩ = some (.bool a.waits) ∧
    (∀ W (f : Nat), Fr (fun _ => False) w W → f ≤ 1000000 → a.waits = false → Calls Tryz.prog 117 #[.pointer (some ⟨b, 0, none⟩), .int .i64 (f : Int)] W fun e w' => e = .returned (.agg (outC (runD f a.d).2).toArray) ∧ ActNd X M base T p P (N.setA { a with d := (runD f a.d).1 }) w w' ∧ ((runD f a.d).2.kind = 7 → (runD f a.d).1.dk = 7)) := by
  obtain ⟨hm, hr⟩ := find_some ha
  have hok := h.ok.act a hm
  obtain ⟨pa, b, rb, kb, ib, MA, mb, rfl, _, hA, hMA, _, hback⟩ := h.act ha
  refine ⟨b, hA.a0, hA.lt.1, hr ▸ hA.a1, rfl, hA.a4, fun W f hf hff hw => ?_⟩
  have hMX : ∀ k, MA k → X k := fun k hk => (h.2.2.1 k (hMA k hk).1).1
  obtain ⟨m1, m2, m3, m4, m5⟩ := hA.mine
  have hAW : ActG W X base T MA (P r) b rb kb ib a := hA.fr (X' := X) hf (fun _ h => h.elim) (fun k hk => .inl hk) (fun _ h => h.elim) (Nat.le_refl _) (fun _ _ h => h)
  refine (drun_any X base T b rb f ib a.d W hAW.dia (fun k hk => Nat.lt_of_lt_of_le (h.xlt k hk) hf.size) ⟨hMX b m2, hMX rb m3⟩ hff).mono ?_
  rintro e w' ⟨rfl, ib', hib, hd, hfr, h7⟩
  have hib' : ∀ k, ib' = some k → ib = some k ∨ W.heap.size ≤ k := fun k hk => by
    rcases hib with e | e
    · exact .inl (e ▸ hk)
    · rw [e] at hk; cases hk
  have hG := hAW.setDia (X' := X) hMX hfr (fun k hk => .inl hk) (Nat.le_refl _) hib' hd
  have hfw : Fr MA w w' := (hf.weak (fun _ h => h.elim)).trans' (hfr.weak (fun k hk => by
    rcases hk with h | h | h
    · exact h ▸ m2
    · exact h ▸ m3
    · exact m5 k h))
  have hsub : ∀ k, (MA k ∨ ib' = some k) → MA k := fun k hk => by
    rcases hk with hk | hk
    · exact hk
    · rcases hib with e | e
      · exact m5 k (e ▸ hk)
      · rw [e] at hk; cases hk
  obtain ⟨q1, q2⟩ := hback w' X (fun k => MA k ∨ ib' = some k) T _ (fun _ h => h) (fun k hk => .inl hk) (fun k hk => .inl (hsub k hk)) (fun k hk => hMX k (hsub k hk)) ⟨b, rb, kb, ib', hG⟩ hfw rfl (hok.ran f hw).1 (Nat.le_refl _)
  exact ⟨rfl, ⟨X, _, q1, q2⟩, h7⟩
end Go.Proofs.YthgbcgphkddmgaaGreat
namespace Go.Proofs.YthgbcgphkddmgaaGreat
open Go.RowKit
set_option linter.unusedVariables false
set_option linter.unusedSimpArgs false
theorem find_setA {N : NdS} {r : Int} {a a' : ActS} (hs : N.acts.Pairwise fun a b => a.ref < b.ref) (h : N.find r = some a) (hr : a'.ref = a.ref) : (N.setA a').find r = some a' := by
  obtain ⟨h1, h2⟩ := find_some h
  have hm : a' ∈ (N.setA a').acts := mem_setA.2 (.inl ⟨a, h1, hr.symm, rfl⟩)
  have := find_of_mem (N := N.setA a') (srt_refs (refs_setA a') hs) hm
  rw [hr, h2] at this
  exact this
end Go.Proofs.YthgbcgphkddmgaaGreat
namespace Go.Proofs.YthgbcgphkddmgaaGreat
open Go.RowKit
set_option linter.unusedVariables false
set_option linter.unusedSimpArgs false
theorem NodeAt.saidRow {w : World} {X M : Nat → Prop} {base T p : Nat} {P : Int → Nat} {N : NdS} (h : NodeAt w X M base T p P N) : ∃ A c sb, w.cell? ⟨p, 9, none⟩ = some (.slice A N.said.length c) ∧ w.ownsRow base 75 2 (.slice A N.said.length c) N.said.length (flatC (saidC N.said) N.said.length) ∧ (Value.slice A N.said.length c).ownBlock = sb ∧ N.said.length ≤ T ∧ (∀ k, sb = some k → M k ∧ k ≠ p) ∧
    (∀ w' g v x T', Fr (fun k => sb = some k) w w' → v.ownBlock = some g → (sb = some g ∨ w.heap.size ≤ g) → w'.ownsRow base 75 2 v (N.said ++ [x]).length (flatC (saidC (N.said ++ [x])) (N.said ++ [x]).length) → N.said.length + 1 ≤ T' → T ≤ T' →
      Gr X M w (fun k => X k ∨ k = g) (fun k => M k ∨ k = g) (w'.setCell ⟨p, 9, none⟩ v) ∧ NodeAt (w'.setCell ⟨p, 9, none⟩ v) (fun k => X k ∨ k = g) (fun k => M k ∨ k = g) base T' p P { N with said := N.said ++ [x] }) := by
  obtain ⟨h1, h2, h3, mb, hb, MA, ob, sb, h4, h5⟩ := h
  obtain ⟨v9, c9, ho, hbk⟩ := h4.c9
  obtain ⟨A, c, rfl, _⟩ := own_any ho
  refine ⟨A, c, sb, c9, ho, hbk, h4.lim.2, fun k hk => ⟨h5.sb k hk, (h4.ap.2.2.2.2 k hk).1⟩, fun w' g v x T' hf hg hgs hr hT hTT => ?_⟩
  have hz := hf.size
  have hgl := (hr.lt g hg).2
  have hgb := (hr.lt g hg).1
  have hM : M p := h5.p
  refine ⟨⟨((hf.weak (fun k hk => h5.sb k hk))).set (.inl hM) v, fun k hk => .inl hk, fun k hk => ?_, fun k hk => ?_⟩, { h1 with }, fun k hk => ?_, fun k hk => ?_, mb, hb, MA, ob, some g, h4.set9 h5 h3 h2 hf hg hgs hr hT hTT, ⟨.inl h5.p, .inl h5.mb, .inl h5.hb, fun k hk => .inl (h5.ob k hk), fun k hk => .inr (by injection hk with hk; exact hk.symm), fun a ha k hk => .inl (h5.act a ha k hk)⟩⟩
  · rcases hk with hk | hk
    · exact .inl hk
    · subst hk
      rcases hgs with e | e
      · exact .inl (h3 k (h5.sb k e)).1
      · exact .inr e
  · rcases hk with hk | hk
    · exact .inl hk
    · subst hk
      rcases hgs with e | e
      · exact .inl (h5.sb k e)
      · exact .inr e
  · have : w'.heap.size = (w'.setCell ⟨p, 9, none⟩ v).heap.size := by simp
    rw [← this]
    rcases hk with hk | hk
    · exact Nat.lt_of_lt_of_le (h2 k hk) hz
    · omega
  · rcases hk with hk | hk
    · exact ⟨.inl (h3 k hk).1, (h3 k hk).2⟩
    · exact ⟨.inr hk, hk ▸ hgb⟩
theorem saidC_snoc (l : List (Int × Int)) (x : Int × Int) : flatC (saidC (l ++ [x])) (l ++ [x]).length = flatC (saidC l) l.length ++ [.int .i64 x.1, .int .i64 x.2] := by
  have e : (l ++ [x]).length = l.length + 1 := by simp
  rw [e, flatC_snoc]
  refine flatC_congr fun k hk => ?_
  unfold updC saidC
  by_cases h : k = l.length
  · subst h
    rw [if_pos rfl]
    simp [List.getD]
  · rw [if_neg h]
    have : k < l.length := by omega
    simp [List.getD, List.getElem?_append_left this]
end Go.Proofs.YthgbcgphkddmgaaGreat
namespace Go.Proofs.YthgbcgphkddmgaaGreat
open Go.RowKit
set_option linter.unusedVariables false
/-- who goes on, and whether -/
def goA (a : ActS) : ActS × Bool := if a.waits then wakeA a else (a, true)
/-- what an output makes of a node -/
def armN (N2 : NdS) (r : Int) (a : ActS) (o : OutS) : NdS × Bool :=
  if o.kind = 2 then ({ N2 with said := N2.said ++ [(r, o.num)] }, true)
  else if o.kind = 3 then (sendN N2 ⟨1, r, o.num, 0, ⟨#[]⟩, vLeaf o.vk o.vn⟩, true)
  else if o.kind = 5 then (sendN N2 ⟨3, r, o.num, 0, ⟨#[]⟩, vLeaf 0 0⟩, true)
  else if o.kind = 6 then (sendN { N2 with rows := linkL N2.rows r o.num } ⟨4, r, o.num, 0, ⟨#[]⟩, vLeaf 0 0⟩, true)
  else if o.kind = 4 then
    let s := spawnN N2 o.text []
    (match s.1.find r with
      | none => s.1
      | some b => s.1.setA (giveA b s.2.1), true)
  else if o.kind = 7 then (N2.setA (waitA a o.num), true)
  else if o.kind = 8 then (remN 60 N2 r false ⟨#[]⟩, true)
  else if o.kind = 9 then (remN 60 N2 r true o.text, true)
  else (N2, false)
/-- an actor behind Run -/
def ranA (N : NdS) (a : ActS) : ActS := { (goA a).1 with d := (runD N.fuel (goA a).1.d).1 }
theorem stepN_go {N : NdS} {r : Int} {a : ActS} (ha : N.find r = some a) (hg : (goA a).2 = true) : stepN N r = armN ((N.setA (goA a).1).setA (ranA N a)) r (ranA N a) (runD N.fuel (goA a).1.d).2 := by
  unfold stepN
  rw [ha]
  show (if !(goA a).2 then (N.setA (goA a).1, false) else armN ((N.setA (goA a).1).setA (ranA N a)) r (ranA N a) (runD N.fuel (goA a).1.d).2) = _
  rw [hg]
  rfl
theorem stepN_no {N : NdS} {r : Int} {a : ActS} (ha : N.find r = some a) (hg : (goA a).2 = false) : stepN N r = (N.setA (goA a).1, false) := by
  unfold stepN
  rw [ha]
  show (if !(goA a).2 then (N.setA (goA a).1, false) else _) = _
  rw [hg]
  rfl
end Go.Proofs.YthgbcgphkddmgaaGreat
namespace Go.Proofs.YthgbcgphkddmgaaGreat
open Go.RowKit
set_option linter.unusedVariables false
set_option linter.unusedSimpArgs false
theorem und_homes : Tryz.prog.underlying 83 = some (.map 3 3) := Tryz.underlying83
/-- the reply of nobody to a letter -/
def NonePost (l : LT) (w : World) (e : Ending) (w' : World) : Prop :=
  (noneL l = none ∧ e = .returned (.tuple #[zeroL, .bool false]) ∧ Below w.heap.size w w') ∨
  (∃ y cs, noneL l = some y ∧ e = .returned (.tuple #[.agg cs.toArray, .bool true]) ∧ (∀ W S, y.isL W S cs) ∧ Below w.heap.size w w')
set_option maxRecDepth 100000 in
set_option maxHeartbeats 4000000 in
theorem none_any (l : LT) (cs : List Value) (S : Nat → Prop) (w : World) (h : l.isL w S cs) : Calls Tryz.prog 186 #[.agg cs.toArray] w (NonePost l w) := by
  obtain ⟨⟨⟨q1, q2, q3⟩, q4, q5, q6⟩, hQ⟩ := isL_ex h
  dsimp only at hQ
  subst hQ
  clear h
  by_cases h3 : l.kind = 3
  · have HN := Lib.hid (show noneL l = some (downLT l.to l.frm 2 ⟨#[]⟩) by unfold noneL; rw [if_pos h3])
    rw [h3]
    clear h3
    go_enter Tryz.func186, Tryz.ntmps186
    go_wp2_with fail
    refine bodyPost_ret (v := .tuple #[.agg #[.int .i64 2, .int .i64 l.to, .int .i64 l.frm, .int .i64 2, .string ⟨#[]⟩, .int .i64 0, .int .i64 0, .string ⟨#[]⟩, .slice none 0 0], .bool true]) (by simp [results, Tryz.results186, go_sem]) rfl (.inr ⟨_, [.int .i64 2, .int .i64 l.to, .int .i64 l.frm, .int .i64 2, .string ⟨#[]⟩, .int .i64 0, .int .i64 0, .string ⟨#[]⟩, .slice none 0 0], HN.out, rfl, fun W S => ⟨0, 0, ⟨#[]⟩, none, 0, 0, rfl, leaf_V W S 0 0⟩, ?_⟩)
    repeat' first | exact Below.refl _ _ | (refine below_set ?_ (by simp)) | (refine Below.alloc ?_ (by simp) _)
  · have e3 : (l.kind == 3) = false := by simpa using h3
    by_cases h4 : l.kind = 4
    · have HN := Lib.hid (show noneL l = some (exitLT l.to l.frm noneS) by unfold noneL; rw [if_neg h3, if_pos h4])
      rw [h4]
      clear h3 h4 e3
      go_enter Tryz.func186, Tryz.ntmps186
      go_wp2_with fail
      refine bodyPost_ret (v := .tuple #[.agg #[.int .i64 5, .int .i64 l.to, .int .i64 l.frm, .int .i64 0, .string ⟨#[110, 111, 110, 101]⟩, .int .i64 0, .int .i64 0, .string ⟨#[]⟩, .slice none 0 0], .bool true]) (by simp [results, Tryz.results186, go_sem]) rfl (.inr ⟨_, [.int .i64 5, .int .i64 l.to, .int .i64 l.frm, .int .i64 0, .string ⟨#[110, 111, 110, 101]⟩, .int .i64 0, .int .i64 0, .string ⟨#[]⟩, .slice none 0 0], HN.out, rfl, fun W S => ⟨0, 0, ⟨#[]⟩, none, 0, 0, rfl, leaf_V W S 0 0⟩, ?_⟩)
      repeat' first | exact Below.refl _ _ | (refine below_set ?_ (by simp)) | (refine Below.alloc ?_ (by simp) _)
    · have e4 : (l.kind == 4) = false := by simpa using h4
      have HN := Lib.hid (show noneL l = none by unfold noneL; rw [if_neg h3, if_neg h4])
      clear h3 h4
      go_enter Tryz.func186, Tryz.ntmps186
      go_wp2_with fail
      refine bodyPost_ret (v := .tuple #[zeroL, .bool false]) (by simp [results, Tryz.results186, go_sem, zeroL]) rfl (.inl ⟨HN.out, rfl, ?_⟩)
      repeat' first | exact Below.refl _ _ | (refine below_set ?_ (by simp)) | (refine Below.alloc ?_ (by simp) _)
theorem tdiv_low {x : Int} (h1 : -9223372036854775808 ≤ x) (h2 : x ≤ 9223372036854775807) : -9223372036854775808 ≤ x.tdiv 1000 ∧ x.tdiv 1000 ≤ 9223372036854775807 := by
  cases x with
  | ofNat n =>
    have e : (Int.ofNat n).tdiv 1000 = ((n / 1000 : Nat) : Int) := rfl
    rw [e]
    have : (Int.ofNat n) = (n : Int) := rfl
    omega
  | negSucc n =>
    have e : (Int.negSucc n).tdiv 1000 = -(((n + 1) / 1000 : Nat) : Int) := rfl
    rw [e]
    have : (Int.negSucc n) = -((n : Int) + 1) := by omega
    omega
set_option maxRecDepth 100000 in
set_option maxHeartbeats 4000000 in
theorem location_any {w : World} {X M : Nat → Prop} {base T p : Nat} {P : Int → Nat} {N : NdS} (h : NodeAt w X M base T p P N) (x : Int) (hx : Wf x) :
    Calls Tryz.prog 161 #[.pointer (some ⟨p, 0, none⟩), .int .i64 x] w fun e w' => e = .returned (.int .i64 (locN N x)) ∧ w' = w := by
  obtain ⟨h1, h2, h3, mb, hb, MA, ob, sb, h4, h5⟩ := h
  have c0 := h4.c0
  have c5 := h4.c5
  obtain ⟨n, hm, _⟩ := h4.hm
  have hl := hm.look_ok und_homes zero_int hx
  have hlow := hx.low
  have HL := Lib.hid (show locN N x = if (N.homes x).getD (x.tdiv 1000) < 1 ∨ 8 < (N.homes x).getD (x.tdiv 1000) then N.id else (N.homes x).getD (x.tdiv 1000) from rfl)
  clear h1 h2 h3 h4 h5 hm
  rcases hh : N.homes x with _ | q
  · rw [hh] at hl HL
    simp only [Option.map_none, Option.getD_none, Option.isSome_none] at hl
    simp only [Option.getD_none] at HL
    obtain ⟨d1, d2⟩ := tdiv_low hlow.1 hlow.2
    have hw : IntKind.i64.wrap (x.tdiv 1000) = x.tdiv 1000 := by rw [IntWalk.i64_in _ ⟨d1, d2⟩]
    by_cases hq : x.tdiv 1000 < 1
    · have HE := Lib.hid (HL.out.trans (if_pos (.inl hq)))
      go_enter Tryz.func161, Tryz.ntmps161
      go_wp2_with fail
      refine bodyPost_ret (v := .int .i64 (locN N x)) (by rw [HE.out]; simp [results, Tryz.results161, go_sem]) rfl ⟨rfl, rfl⟩
    · by_cases hq8 : 8 < x.tdiv 1000
      · have HE := Lib.hid (HL.out.trans (if_pos (.inr hq8)))
        go_enter Tryz.func161, Tryz.ntmps161
        go_wp2_with fail
        refine bodyPost_ret (v := .int .i64 (locN N x)) (by rw [HE.out]; simp [results, Tryz.results161, go_sem]) rfl ⟨rfl, rfl⟩
      · have HE := Lib.hid (HL.out.trans (if_neg (fun h => by rcases h with h | h; exact hq h; exact hq8 h)))
        go_enter Tryz.func161, Tryz.ntmps161
        go_wp2_with fail
        refine bodyPost_ret (v := .int .i64 (locN N x)) (by rw [HE.out]; simp [results, Tryz.results161, go_sem]) rfl ⟨rfl, rfl⟩
  · rw [hh] at hl HL
    simp only [Option.map_some, Option.getD_some, Option.isSome_some] at hl HL
    by_cases hq : q < 1
    · have HE := Lib.hid (HL.out.trans (if_pos (.inl hq)))
      go_enter Tryz.func161, Tryz.ntmps161
      go_wp2_with fail
      refine bodyPost_ret (v := .int .i64 (locN N x)) (by rw [HE.out]; simp [results, Tryz.results161, go_sem]) rfl ⟨rfl, rfl⟩
    · by_cases hq8 : 8 < q
      · have HE := Lib.hid (HL.out.trans (if_pos (.inr hq8)))
        go_enter Tryz.func161, Tryz.ntmps161
        go_wp2_with fail
        refine bodyPost_ret (v := .int .i64 (locN N x)) (by rw [HE.out]; simp [results, Tryz.results161, go_sem]) rfl ⟨rfl, rfl⟩
      · have HE := Lib.hid (HL.out.trans (if_neg (fun h => by rcases h with h | h; exact hq h; exact hq8 h)))
        go_enter Tryz.func161, Tryz.ntmps161
        go_wp2_with fail
        refine bodyPost_ret (v := .int .i64 (locN N x)) (by rw [HE.out]; simp [results, Tryz.results161, go_sem]) rfl ⟨rfl, rfl⟩
end Go.Proofs.YthgbcgphkddmgaaGreat
