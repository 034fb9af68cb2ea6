/- The walk of the law NodeNumbers. -/
import Derived.Test.YtjjfglbcikaicaaGreatMJ
namespace Go.Proofs.YtjjfglbcikaicaaGreat
open Go.RowKit Go.ChangeShapes Go.WideShapes
set_option linter.unusedVariables false
set_option linter.unusedSimpArgs false
theorem turnN_ids (N : NdS) : (turnN N).1.id = N.id ∧ N.spawned ≤ (turnN N).1.spawned := by
  unfold turnN
  split
  · exact ⟨rfl, Nat.le_refl _⟩
  · have h := loopN_keep N.fuel { N with last := nextI (readyN N) N.last } (nextI (readyN N) N.last)
    exact ⟨h.id, h.spawned⟩
theorem doN_ids (N : NdS) (d : Dd) : (doN N d).id = N.id ∧ N.spawned ≤ (doN N d).spawned := by
  unfold doN
  split
  · exact ⟨(spawnN_keep N _).id, (spawnN_keep N _).spawned⟩
  split
  · split
    · exact ⟨rfl, Nat.le_refl _⟩
    · exact ⟨(putN_keep N _).id, Nat.le_of_eq (putN_keep N _).spawned.symm⟩
  split
  · exact turnN_ids N
  split
  · exact ⟨rfl, Nat.le_refl _⟩
  · exact ⟨rfl, Nat.le_refl _⟩
theorem dropN_ids (N : NdS) (r : Int) : (dropN N r).id = N.id ∧ (dropN N r).spawned = N.spawned := by
  unfold dropN
  split <;> exact ⟨rfl, rfl⟩
/-- what a spawn answers, and leaves -/
theorem spawnN_new (N : NdS) (nm : ByteArray) : ((spawnN N nm).2.2 = 0 ∧ (spawnN N nm).2.1 = N.id * 1000 + N.spawned + 1 ∧ (spawnN N nm).1.spawned = N.spawned + 1 ∧ (spawnN N nm).1.has (N.id * 1000 + N.spawned + 1) = true ∧ N.spawned < 999) ∨ ((spawnN N nm).2.2 ≠ 0 ∧ (spawnN N nm).1 = N) := by
  unfold spawnN
  dsimp only
  split
  · exact .inr ⟨show (4 : Int) ≠ 0 by decide, rfl⟩
  · split
    · exact .inr ⟨show (5 : Int) ≠ 0 by decide, rfl⟩
    · split
      · exact .inr ⟨show (6 : Int) ≠ 0 by decide, rfl⟩
      · rename_i l _ h1 h2
        refine .inl ⟨rfl, rfl, rfl, ?_, by omega⟩
        exact has_iff.2 ⟨_, mem_insA.2 (.inl rfl), rfl⟩
/-- where the law stands: a node, and whom it has had -/
structure NumAtW (W0 : World) (base p T : Nat) (wr : World) (P : Int → Nat) (X M : Nat → Prop) (N : NdS) (v : Value) (Hs : List Int) : Prop where
  fr : Fr (fun k => W0.heap.size ≤ k) W0 wr
  ml : ∀ k, M k → W0.heap.size ≤ k
  nd : NodeAt wr X M base T p P N
  tk : AllA TkOk N
  id : N.id = 1
  len : Hs.length ≤ N.spawned
  le : ∀ x, x ∈ Hs → x ≤ 1000 + (N.spawned : Int)
  row : OwnI wr base v Hs
  blk : ∀ k, v.ownBlock = some k → X k ∧ ¬ M k
section
variable {W0 : World} {base p T : Nat} {w w' : World} {P : Int → Nat} {X M : Nat → Prop} {N : NdS} {v : Value} {Hs : List Int}
/-- a call of the node's -/
theorem NumAtW.call {P' : Int → Nat} {X' M' : Nat → Prop} {N' : NdS} {T' : Nat} (h : NumAtW W0 base p T w P X M N v Hs) (hg : Gr X M w X' M' w') (hn : NodeAt w' X' M' base T' p P' N') (ht : AllA TkOk N') (hi : N'.id = N.id) (hs : N.spawned ≤ N'.spawned) : NumAtW W0 base p T' w' P' X' M' N' v Hs where
  fr := h.fr.trans (hg.fr.weak (fun k hk => h.ml k hk)) (fun k hk => .inl hk)
  ml k hk := by
    rcases hg.ms k hk with hh | hh
    · exact h.ml k hh
    · have := h.fr.size; omega
  nd := hn
  tk := ht
  id := hi.trans h.id
  len := Nat.le_trans h.len hs
  le x hx := by have := h.le x hx; omega
  row := hg.fr.row h.row (fun k hk => (h.blk k hk).2)
  blk k hk := ⟨hg.up k (h.blk k hk).1, fun hm => by
    rcases hg.ms k hm with hh | hh
    · exact (h.blk k hk).2 hh
    · have := (h.row.blk k hk).2; omega⟩
theorem NumAtW.new (h : NumAtW W0 base p T w P X M N v Hs) (hf : Fr (fun _ => False) w w') : NumAtW W0 base p T w' P X M N v Hs :=
  h.call (Gr.new hf) (h.nd.new hf (fun _ h => h)) h.tk rfl (Nat.le_refl _)
theorem NumAtW.up (h : NumAtW W0 base p T w P X M N v Hs) {T' : Nat} (hT : T ≤ T') : NumAtW W0 base p T' w P X M N v Hs := { h with nd := h.nd.up hT }
/-- one more has been had -/
theorem NumAtW.push {v' : Value} {x : Int} (h : NumAtW W0 base p T w P X M N v Hs) (hg : w.grownBy w' v.ownBlock) (hr : OwnI w' base v' (Hs ++ [x])) (hat : v'.ownBlock = v.ownBlock ∨ ∃ H, v'.ownBlock = some H ∧ w.heap.size ≤ H) (hl : Hs.length + 1 ≤ N.spawned) (hx : x ≤ 1000 + (N.spawned : Int)) (hb : W0.heap.size ≤ base) : NumAtW W0 base p T w' P (XW X w w') M N v' (Hs ++ [x]) where
  fr := h.fr.trans (Fr.of_grown (S := fun k => W0.heap.size ≤ k) hg (fun k hk => .inl (by have := (h.row.blk k hk).1; omega))) (fun k hk => .inl hk)
  ml := h.ml
  nd := h.nd.fr (Fr.of_grown (S := fun k => v.ownBlock = some k) hg (fun k hk => .inl hk)) (fun k hk => ⟨(h.blk k hk).1, (h.row.blk k hk).1⟩) (fun k hk => .inl hk) (fun k hk => hk) (fun k hk e => (h.blk k e).2 hk)
  tk := h.tk
  id := h.id
  len := by rw [List.length_append]; simpa using hl
  le y hy := by
    rcases List.mem_append.1 hy with hy | hy
    · exact h.le y hy
    · rw [List.mem_singleton] at hy; subst hy; exact hx
  row := hr
  blk k hk := by
    rcases hat with e | ⟨H, e, hH⟩
    · rw [e] at hk
      exact ⟨.inl (h.blk k hk).1, (h.blk k hk).2⟩
    · rw [e] at hk
      injection hk with hk
      subst hk
      refine ⟨.inr ⟨hH, (hr.blk H (by rw [e])).2⟩, fun hm => ?_⟩
      have := h.nd.xlt H (h.nd.2.2.1 H hm).1
      omega
end
set_option maxRecDepth 100000 in
set_option maxHeartbeats 16000000 in
theorem nodeNumbers_walk {H : Type} {enc : TypeId × Value → H} (W : World) (base : Nat) (v0 v1 v2 : Value) {d0 d1 d2 : DataW H} {p0 p1 p2 : List MemPlace}
    (k0 : Value.okWide Tryz.prog W .any base 25 v0) (k1 : Value.okWide Tryz.prog W .any base 56 v1) (k2 : Value.okWide Tryz.prog W .any base 26 v2)
    (h0 : DataW.Trod enc Tryz.prog W 0 (fun _ => true) true 25 v0 d0 p0) (h1 : DataW.Trod enc Tryz.prog W 0 (fun _ => true) true 56 v1 d1 p1) (h2 : DataW.Trod enc Tryz.prog W 0 (fun _ => true) true 26 v2 d2 p2) :
    Calls Tryz.prog 9 #[v0, v1, v2] W fun e W' => e = .returned (.bool true) ∧ Below W.heap.size W W' := by
  obtain ⟨L, hL⟩ := open_scripts k0 h0
  obtain ⟨l, hl⟩ := open_deeds k1 h1
  obtain ⟨A2, n2, c2, T2, rfl, hn2, hc2, -, hR2, -⟩ := open_intsW k2 h2
  have HLW := Lib.hid (tameL_wf hL.wf)
  have HLA := Lib.hid hL
  obtain ⟨A0, c0, rfl, _⟩ := hL
  obtain ⟨A1, c1, rfl, hd1, hd2, hRd, hdw⟩ := hl
  have HRD := Lib.hid hRd
  have HDW := Lib.hid hdw
  have HR2 := Lib.hid hR2
  clear k0 k1 k2 h0 h1 h2 hRd hdw hR2
  go_enter Tryz.func9, Tryz.ntmps9
  go_wp2_with fail
  refine (nodes_any W).mono ?_
  rintro e w1 ⟨rfl, hb1⟩
  have HB1 := Lib.hid hb1
  have HTM := Lib.hid (tame_scr _ L w1 (show ArgScrs w1 (fun b => b < w1.heap.size) (.slice A0 L.length c0) L from by
    have hf := Fr.of_below (S := fun _ => False) hb1
    obtain ⟨A, c, e, g1, g2, g3, g4⟩ := HLA.out
    refine ⟨A, c, e, g1, g2, g3, fun i hi => ?_⟩
    obtain ⟨b, off, V, e1, hb, hc, A', c', vo, e2, q1, q2, q3, q4⟩ := g4 i hi
    refine ⟨b, off, V, e1, Nat.lt_of_lt_of_le hb hb1.size, hf.cell hc (fun h => h), A', c', vo, e2, q1, q2, fun h0 => ?_, fun k hk => (q4 k hk).fr hf (fun _ _ h => h) (fun b hb => Nat.lt_of_lt_of_le hb hb1.size)⟩
    obtain ⟨b', off', e3, hb', hc'⟩ := q3 h0
    exact ⟨b', off', e3, Nat.lt_of_lt_of_le hb' hb1.size, fun k hk j u hu => hf.cell (hc' k hk j u hu) (fun h => h)⟩))
  clear hb1 HLA
  go_wp2_with fail
  refine HTM.out.mono ?_
  rintro e w2 ⟨A3, c3, rfl, hs2, hb2⟩
  have HB2 := Lib.hid (HB1.out.trans (hb2.mono HB1.out.size))
  have HBG := Lib.hid (begun_any (fun _ => False) w2.heap.size A3 c3 (tameL L) 7 (.slice none 0 0) [] w2 (fun _ h => h.elim) (Nat.le_refl _) hs2 HLW.out ⟨none, 0, rfl, Nat.le_refl _, by omega, fun h => by simp at h, fun k hk => by simp at hk⟩)
  have hz2 := HB2.out.size
  clear hs2 hb2 HTM HB1
  go_wp2_with fail
  refine HBG.out.mono ?_
  rintro e w3 ⟨p, P, X, M, rfl, hf3, -, hX, hM, hn3, hi3⟩
  have HB3 := Lib.hid (show NumAtW W w2.heap.size p 10000000000 w3 P X M (begunN (tameL L) 7 []) (.slice none 0 0) [] from
    ⟨(Fr.of_below HB2.out).trans (hf3.weak (S2 := fun _ => False) (fun _ h => h)) (fun k hk => hk.elim), fun k hk => by have := hM k hk; omega, hn3, hi3, rfl, Nat.zero_le _, (fun x hx => by cases hx), OwnI.nil _ _, (fun k hk => by cases hk)⟩)
  clear hf3 hX hM hn3 hi3 HBG
  generalize begunN (tameL L) 7 [] = N3 at *
  go_wp2_with fail
  go_loopw [8, 9, 10, 11, 12, 22] (fun v8 _ _ _ _ v22 wr => ∃ (i : Nat) (Pi : Int → Nat) (Xi Mi : Nat → Prop) (Ni : NdS) (Hs : List Int) (Ah : Option Addr) (ch : Nat), i ≤ l.length ∧ i ≤ 40 ∧ v22 = .int .i64 (i : Int) ∧ v8 = .slice Ah Hs.length ch ∧ Hid (NumAtW W w2.heap.size p (10000000000 + 200000000 * i) wr Pi Xi Mi Ni (.slice Ah Hs.length ch) Hs)) (fun _ _ _ _ _ v22 _ => l.length - (intOf v22).toNat)
  case atStart => exact ⟨0, P, X, M, N3, [], none, 0, Nat.zero_le _, Nat.zero_le _, rfl, rfl, HB3⟩
  case round =>
    obtain ⟨i, Pi, Xi, Mi, Ni, Hs, Ah, ch, hi, hi40, rfl, rfl, HSt⟩ := hrel
    have HSP9 := Lib.hid (spawned_any HSt.out.nd)
    have hsl := HSt.out.len
    have hsp9 := HSt.out.nd.ok.spawned
    have HEND := Lib.hid (show Below W.heap.size W wr from HSt.out.fr.below (fun k hk => hk) (Nat.le_refl _))
    by_cases hlt : i < l.length
    · obtain ⟨b, off, rfl, hbl, hcell⟩ := HRD.out (by omega)
      have hnb : ¬ W.heap.size ≤ b := by omega
      obtain ⟨d, hd⟩ : ∃ d, nthDd l i = d := ⟨_, rfl⟩
      have hc := hcell i hlt
      have hdwi := HDW.out i hlt
      dsimp only at hc
      rw [hd] at hc hdwi
      have y0 : wr.cell? ⟨b, off + i * 4, none⟩ = some (.int .i64 d.kind) := HSt.out.fr.cell (hc 0 _ rfl) hnb
      have y1 : wr.cell? ⟨b, off + i * 4 + 1, none⟩ = some (.int .i64 d.n) := HSt.out.fr.cell (hc 1 _ rfl) hnb
      have y2 : wr.cell? ⟨b, off + i * 4 + 2, none⟩ = some (.int .i64 d.ref) := HSt.out.fr.cell (hc 2 _ rfl) hnb
      have y3 : wr.cell? ⟨b, off + i * 4 + 3, none⟩ = some (.int .i64 d.num) := HSt.out.fr.cell (hc 3 _ rfl) hnb
      have hbr : b < wr.heap.size := Nat.lt_of_lt_of_le hbl HSt.out.fr.size
      have i1 : (0 : Int) ≤ (i : Int) := by omega
      have i2 : (i : Int) < (l.length : Int) := by omega
      have HDI := Lib.hid hdwi
      clear hcell hc hnb hd hdwi
      by_cases h40 : i = 40
      · subst h40
        have HSP8 := Lib.hid (fun (W9 : World) (hf : Fr (fun _ => False) wr W9) => spawned_any (HSt.out.nd.new hf (fun _ h => h)))
        have g9 : decide ((Hs.length : Int) ≤ (Ni.spawned : Int)) = true := decide_eq_true (by omega)
        go_wp2_with fail
        refine (HSP8.out _ (by (repeat' first | with_reducible exact Fr.refl _ _ | (with_reducible refine Fr.setEq ?_ _) | (with_reducible refine Fr.setNew ?_ _) | with_reducible refine Fr.alloc ?_ _ | with_reducible refine Fr.drewN ?_ _ | with_reducible refine Fr.drew ?_))).mono ?_
        rintro e w9 ⟨rfl, rfl⟩
        go_wp2_with fail
        refine bodyPost_ret (v := .bool true) (by simp [results, Tryz.results9, go_sem]) rfl ⟨rfl, ?_⟩
        exact HEND.out.trans (((Below.refl _ _).alloc (Nat.le_refl _) _).mono HEND.out.size)
      · have g4 : decide ((40 : Int) ≤ (i : Int)) = false := decide_eq_false (by omega)
        have HNM := Lib.hid (nmD_is d.n)
        have hcv : ∀ (W9 : World) (x : Int), W9.heap.size = wr.heap.size + 1 → Sem.run Tryz.prog (convert 71 9 (.slice (some ⟨wr.heap.size + 1, 0, none⟩) 1 1)) (W9.alloc (.cells #[.int .u8 (x % 256)] 5)) = .ok (.string ⟨#[UInt8.ofNat (x % 256).toNat]⟩) (W9.alloc (.cells #[.int .u8 (x % 256)] 5)) := fun W9 x hW => conv_one W9 x _ hW
        have HSP := Lib.hid (fun (W9 : World) (hf : Fr (fun _ => False) wr W9) => spawn_any (UInt8.ofNat (48 + ((IntKind.u64.wrap d.n).tmod 5).toNat)) ((HSt.out.new hf).nd.up (T' := 10000000000 + 200000000 * i + 201) (by omega)) (by have := HSt.out.nd.lim; unfold pot; omega) (by omega))
        obtain ⟨W5, hW5⟩ : ∃ W5, W5 = wr.alloc (.cells #[.int .i64 d.kind, .int .i64 d.n, .int .i64 d.ref, .int .i64 d.num] 69) := ⟨_, rfl⟩
        have hf5 : Fr (fun _ => False) wr W5 := by rw [hW5]; exact (Fr.refl _ _).alloc _
        have z0 : W5.cell? ⟨wr.heap.size, 0, none⟩ = some (.int .i64 d.kind) := by rw [hW5]; simp [go_sem]
        have z1 : W5.cell? ⟨wr.heap.size, 1, none⟩ = some (.int .i64 d.n) := by rw [hW5]; simp [go_sem]
        have z2 : W5.cell? ⟨wr.heap.size, 2, none⟩ = some (.int .i64 d.ref) := by rw [hW5]; simp [go_sem]
        have z3 : W5.cell? ⟨wr.heap.size, 3, none⟩ = some (.int .i64 d.num) := by rw [hW5]; simp [go_sem]
        have hz5 : W5.heap.size = wr.heap.size + 1 := by rw [hW5]; simp
        have HF5 := Lib.hid hf5
        have HW5 := Lib.hid hW5
        have hnm : nmD d.n = ⟨#[UInt8.ofNat (48 + ((IntKind.u64.wrap d.n).tmod 5).toNat)]⟩ := rfl
        rw [← hnm] at HSP
        generalize nmD d.n = nm at *
        have HNW := Lib.hid (spawnN_new Ni nm)
        have HKI := Lib.hid (spawnN_keep Ni nm)
        have HSA := Lib.hid (spawnN_all tk_inv HSt.out.tk nm)
        clear hW5 hf5 hnm
        generalize hS : spawnN Ni nm = S at *
        obtain ⟨N6, rf, er⟩ := S
        dsimp only at HSP HNW HKI HSA
        clear hS
        have HML := Lib.hid (show ∀ k, Mi k → k < wr.heap.size from fun k hk => HSt.out.nd.xlt k (HSt.out.nd.2.2.1 k hk).1)
        go_wp2_with fail
        rw [← HNM.out]
        refine (HSP.out _ (by (repeat' first | with_reducible exact Fr.refl _ _ | (with_reducible refine Fr.setEq ?_ _) | (with_reducible refine Fr.setNew ?_ _) | with_reducible refine Fr.alloc ?_ _ | with_reducible refine Fr.drewN ?_ _ | with_reducible refine Fr.drew ?_))).mono ?_
        rintro e w6 ⟨P6, -, rfl, X6, M6, hg6, hn6⟩
        have hfc : Fr (fun _ => False) wr ((wr.alloc (.cells #[.int .i64 d.kind, .int .i64 d.n, .int .i64 d.ref, .int .i64 d.num] 69)).alloc (.cells #[.int .u8 (IntKind.u64.wrap (48 + (IntKind.u64.wrap d.n).tmod 5) % 256)] 5)) := ((Fr.refl _ _).alloc _).alloc _
        have HS6 := Lib.hid ((HSt.out.new hfc).call hg6 hn6 HSA.out HKI.out.id HKI.out.spawned)
        have hqM0 : ¬ Mi wr.heap.size := fun hm => absurd (HML.out _ hm) (Nat.lt_irrefl _)
        have q0 := hg6.fr.cell (show ((wr.alloc (.cells #[.int .i64 d.kind, .int .i64 d.n, .int .i64 d.ref, .int .i64 d.num] 69)).alloc (.cells #[.int .u8 (IntKind.u64.wrap (48 + (IntKind.u64.wrap d.n).tmod 5) % 256)] 5)).cell? ⟨wr.heap.size, 0, none⟩ = some (.int .i64 d.kind) by simp [go_sem]) hqM0
        have q1 := hg6.fr.cell (show ((wr.alloc (.cells #[.int .i64 d.kind, .int .i64 d.n, .int .i64 d.ref, .int .i64 d.num] 69)).alloc (.cells #[.int .u8 (IntKind.u64.wrap (48 + (IntKind.u64.wrap d.n).tmod 5) % 256)] 5)).cell? ⟨wr.heap.size, 1, none⟩ = some (.int .i64 d.n) by simp [go_sem]) hqM0
        have q2 := hg6.fr.cell (show ((wr.alloc (.cells #[.int .i64 d.kind, .int .i64 d.n, .int .i64 d.ref, .int .i64 d.num] 69)).alloc (.cells #[.int .u8 (IntKind.u64.wrap (48 + (IntKind.u64.wrap d.n).tmod 5) % 256)] 5)).cell? ⟨wr.heap.size, 2, none⟩ = some (.int .i64 d.ref) by simp [go_sem]) hqM0
        have q3 := hg6.fr.cell (show ((wr.alloc (.cells #[.int .i64 d.kind, .int .i64 d.n, .int .i64 d.ref, .int .i64 d.num] 69)).alloc (.cells #[.int .u8 (IntKind.u64.wrap (48 + (IntKind.u64.wrap d.n).tmod 5) % 256)] 5)).cell? ⟨wr.heap.size, 3, none⟩ = some (.int .i64 d.num) by simp [go_sem]) hqM0
        have hqM : ¬ M6 wr.heap.size := fun hm => by
          rcases hg6.ms _ hm with h | h
          · exact hqM0 h
          · simp at h
            omega
        have hq6 : wr.heap.size < w6.heap.size := by
          have := hg6.fr.size
          simp at this
          omega
        clear hg6 hn6 hfc hcv z0 z1 z2 z3 y0 y1 y2 y3 HSP hqM0
        rcases HNW.out with ⟨g1, g2, g3, g5, g6⟩ | ⟨g1, g2⟩
        · subst g1
          have hid := HSt.out.id
          rw [hid] at g2 g5
          have hnc : anyOf (fun k => rf == lst Hs k) Hs.length = false := by
            rw [any_lst]
            refine decide_eq_false fun hm => ?_
            have := HSt.out.le rf hm
            omega
          have HCT := Lib.hid (containsI_any Ah Hs.length ch (lst Hs) rf w6 (by omega) HS6.out.row.rd)
          rw [hnc] at HCT
          have hrq : rf.tdiv 1000 = 1 := by
            rw [Int.tdiv_eq_ediv_of_nonneg (by omega)]
            omega
          have HRF := Lib.hid (refs_any HS6.out.nd)
          have HG2 := Lib.hid g2
          have HG5 := Lib.hid (show rf ∈ refsN N6 from mem_refsN.2 (by rw [g2]; simpa using g5))
          have HG36 := Lib.hid (And.intro g3 g6)
          clear g2 g3 g5 g6 hid hnc
          go_wp2_with fail
          refine HCT.out.mono ?_
          rintro e w7 ⟨rfl, rfl⟩
          go_wp2_with fail
          refine HRF.out.mono ?_
          rintro e w8 ⟨A8, c8, rfl, ho8, hb8⟩
          have hf8 := Fr.of_below (S := fun _ => False) hb8
          have HS8 := Lib.hid (HS6.out.new hf8)
          have r0 := hf8.cell q0 (fun h => h)
          have r1 := hf8.cell q1 (fun h => h)
          have r2 := hf8.cell q2 (fun h => h)
          have r3 := hf8.cell q3 (fun h => h)
          have hq8 := Nat.lt_of_lt_of_le hq6 hf8.size
          have hnal := HS6.out.nd.ok.len
          have HCR := Lib.hid (containsI_any A8 N6.acts.length c8 (lst (refsN N6)) rf w8 (by omega) (by have := OwnI.rd ho8; rw [refsN_len] at this; exact this))
          have hct : anyOf (fun k => rf == lst (refsN N6) k) N6.acts.length = true := by
            rw [← refsN_len, any_lst]
            exact decide_eq_true HG5.out
          rw [hct] at HCR
          have hh60 : Hs.length ≤ 1000000 := by omega
          clear ho8 hb8 hf8 q0 q1 q2 q3 HRF HCT hct
          go_wp2_with fail
          refine HCR.out.mono ?_
          rintro e w9 ⟨rfl, rfl⟩
          have hbw8 : w2.heap.size ≤ w8.heap.size := by have := HS8.out.nd.pM.2.2; have := HS8.out.nd.p_lt; omega
          go_upto_if 70 with (at_builtin; go_loud (refine wpList_append_int rfl _ _ rfl w2.heap.size (.slice Ah Hs.length ch) Hs rfl HS8.out.row w8.heap.size rfl rf rfl hh60 hbw8 ?_; intro v7 w7 ho7 hg7 hat7; have HO7 := Lib.hid ho7; have HG7 := Lib.hid hg7; have HA7 := Lib.hid hat7; clear ho7 hg7 hat7))
          have HS7 := Lib.hid (HS8.out.push HG7.out HO7.out (by rcases HA7.out with h | h; exact .inl h; exact .inr ⟨_, h, by omega⟩) (by have h1 := HSt.out.len; have h2 := HG36.out.1; omega) (by have h1 := HG2.out; have h2 := HG36.out.1; omega) (by omega))
          have hblk : ∀ k, (Value.slice Ah Hs.length ch).ownBlock = some k → k ≠ wr.heap.size := fun k hk e => by
            have := (HSt.out.row.blk k hk).2
            omega
          have hf7 : Fr (fun k => (Value.slice Ah Hs.length ch).ownBlock = some k) w8 w7 := Fr.of_grown HG7.out (fun k hk => .inl hk)
          have q0 := hf7.cell r0 (fun h => hblk _ h rfl)
          have q1 := hf7.cell r1 (fun h => hblk _ h rfl)
          have q2 := hf7.cell r2 (fun h => hblk _ h rfl)
          have q3 := hf7.cell r3 (fun h => hblk _ h rfl)
          have hq7 := Nat.lt_of_lt_of_le hq8 hf7.size
          obtain ⟨A7, c7, hv7, -, -, -⟩ := own_any HO7.out
          subst hv7
          clear r0 r1 r2 r3 hf7 hblk HG7 HA7 HS8 HO7
          generalize hHs7 : Hs ++ [rf] = Hs7 at *
          clear hHs7
          by_cases hi2 : i < n2
          · obtain ⟨bd, offd, rfl, hbd, hcd⟩ := HR2.out (by omega)
            have hcd1 := hcd i hi2 0 (.int .i64 (T2 i)) rfl
            simp only [Nat.add_zero, Nat.mul_one] at hcd1
            have e5 := HS7.out.fr.cell hcd1 (show ¬ W.heap.size ≤ bd by omega)
            have hwr5 := wrap_rem (T2 i) 50 (by omega) (by omega)
            obtain ⟨kd, hkd, hkd50⟩ : ∃ kd : Nat, ((IntKind.u64.wrap (T2 i)).tmod ((50 : Nat) : Int)).toNat = kd ∧ kd < 50 := by
              refine ⟨_, rfl, ?_⟩
              obtain ⟨g0, g1⟩ := u64_wrap_range (T2 i)
              rw [Int.tmod_eq_emod_of_nonneg g0]
              omega
            rw [hkd] at hwr5
            have hbd5 : bd < w7.heap.size := Nat.lt_of_lt_of_le hbd HS7.out.fr.size
            have i3 : (i : Int) < (n2 : Int) := by omega
            have HDR := Lib.hid ((drop_any HS7.out.nd (1001 + (kd : Int)) (Wf.of (by omega) (by omega))).mono (R' := fun e w' => ∃ z : Int, e = .returned (.int .i64 z) ∧ ∃ X' M', Gr _ _ _ X' M' w' ∧ NodeAt w' X' M' _ _ _ _ (dropN N6 (1001 + (kd : Int)))) fun e w' h => ⟨_, h.1, h.2⟩)
            have HDI2 := Lib.hid (dropN_ids N6 (1001 + (kd : Int)))
            have HDA := Lib.hid (dropN_all HS7.out.tk (1001 + (kd : Int)))
            have hfin : wrap64 (1001 + wrap64 ((IntKind.u64.wrap (T2 i)).tmod 50)) = 1001 + (kd : Int) := by
              have h' : wrap64 ((IntKind.u64.wrap (T2 i)).tmod 50) = (kd : Int) := hwr5
              rw [h']
              unfold wrap64
              omega
            have HFIN := Lib.hid hfin
            clear hcd hcd1 hkd hwr5 hfin
            go_wp2_with fail
            rw [HFIN.out]
            refine HDR.out.mono ?_
            rintro e w8 ⟨z8, rfl, X8, M8, hg8, hn8⟩
            have HS8 := Lib.hid (HS7.out.call hg8 hn8 HDA.out HDI2.out.1 (Nat.le_of_eq HDI2.out.2.symm))
            have u0 := hg8.fr.cell q0 hqM
            have u1 := hg8.fr.cell q1 hqM
            have u2 := hg8.fr.cell q2 hqM
            have u3 := hg8.fr.cell q3 hqM
            clear hg8 hn8 HDR
            have HDO := Lib.hid (do_any HS8.out.nd HS8.out.tk d HDI.out (by omega))
            unfold ddC at HDO
            have HID := Lib.hid (doN_ids (dropN N6 (1001 + (kd : Int))) d)
            have HTK := Lib.hid (doN_all tk_inv HS8.out.tk d)
            go_wp2_with fail
            refine HDO.out.mono ?_
            rintro e w9 ⟨rfl, P9, X9, M9, hg9, hn9⟩
            have HS9 := Lib.hid (HS8.out.call hg9 hn9 HTK.out HID.out.1 HID.out.2)
            clear hg9 hn9 HDO
            go_wp2_with fail
            go_roundw
            case rel => exact ⟨i + 1, P9, X9, M9, doN (dropN N6 (1001 + (kd : Int))) d, _, _, _, by omega, by omega, by go_num, rfl, Lib.hid (HS9.out.up (by omega))⟩
            case measure => simp [intOf]; omega
          · have i3 : ¬ (i : Int) < (n2 : Int) := by omega
            have HDO := Lib.hid (do_any HS7.out.nd HS7.out.tk d HDI.out (by omega))
            unfold ddC at HDO
            have HID := Lib.hid (doN_ids N6 d)
            have HTK := Lib.hid (doN_all tk_inv HS7.out.tk d)
            go_wp2_with fail
            refine HDO.out.mono ?_
            rintro e w9 ⟨rfl, P9, X9, M9, hg9, hn9⟩
            have HS9 := Lib.hid (HS7.out.call hg9 hn9 HTK.out HID.out.1 HID.out.2)
            clear hg9 hn9 HDO
            go_wp2_with fail
            go_roundw
            case rel => exact ⟨i + 1, P9, X9, M9, doN N6 d, _, _, _, by omega, by omega, by go_num, rfl, Lib.hid (HS9.out.up (by omega))⟩
            case measure => simp [intOf]; omega

        · subst g2
          have g1b : (er == 0) = false := by simpa using g1
          clear g1
          by_cases hi2 : i < n2
          · obtain ⟨bd, offd, rfl, hbd, hcd⟩ := HR2.out (by omega)
            have hcd1 := hcd i hi2 0 (.int .i64 (T2 i)) rfl
            simp only [Nat.add_zero, Nat.mul_one] at hcd1
            have e5 := HS6.out.fr.cell hcd1 (show ¬ W.heap.size ≤ bd by omega)
            have hwr5 := wrap_rem (T2 i) 50 (by omega) (by omega)
            obtain ⟨kd, hkd, hkd50⟩ : ∃ kd : Nat, ((IntKind.u64.wrap (T2 i)).tmod ((50 : Nat) : Int)).toNat = kd ∧ kd < 50 := by
              refine ⟨_, rfl, ?_⟩
              obtain ⟨g0, g1⟩ := u64_wrap_range (T2 i)
              rw [Int.tmod_eq_emod_of_nonneg g0]
              omega
            rw [hkd] at hwr5
            have hbd5 : bd < w6.heap.size := Nat.lt_of_lt_of_le hbd HS6.out.fr.size
            have i3 : (i : Int) < (n2 : Int) := by omega
            have HDR := Lib.hid ((drop_any HS6.out.nd (1001 + (kd : Int)) (Wf.of (by omega) (by omega))).mono (R' := fun e w' => ∃ z : Int, e = .returned (.int .i64 z) ∧ ∃ X' M', Gr _ _ _ X' M' w' ∧ NodeAt w' X' M' _ _ _ _ (dropN N6 (1001 + (kd : Int)))) fun e w' h => ⟨_, h.1, h.2⟩)
            have HDI2 := Lib.hid (dropN_ids N6 (1001 + (kd : Int)))
            have HDA := Lib.hid (dropN_all HS6.out.tk (1001 + (kd : Int)))
            have hfin : wrap64 (1001 + wrap64 ((IntKind.u64.wrap (T2 i)).tmod 50)) = 1001 + (kd : Int) := by
              have h' : wrap64 ((IntKind.u64.wrap (T2 i)).tmod 50) = (kd : Int) := hwr5
              rw [h']
              unfold wrap64
              omega
            have HFIN := Lib.hid hfin
            clear hcd hcd1 hkd hwr5 hfin
            go_wp2_with fail
            rw [HFIN.out]
            refine HDR.out.mono ?_
            rintro e w8 ⟨z8, rfl, X8, M8, hg8, hn8⟩
            have HS8 := Lib.hid (HS6.out.call hg8 hn8 HDA.out HDI2.out.1 (Nat.le_of_eq HDI2.out.2.symm))
            have u0 := hg8.fr.cell q0 hqM
            have u1 := hg8.fr.cell q1 hqM
            have u2 := hg8.fr.cell q2 hqM
            have u3 := hg8.fr.cell q3 hqM
            clear hg8 hn8 HDR
            have HDO := Lib.hid (do_any HS8.out.nd HS8.out.tk d HDI.out (by omega))
            unfold ddC at HDO
            have HID := Lib.hid (doN_ids (dropN N6 (1001 + (kd : Int))) d)
            have HTK := Lib.hid (doN_all tk_inv HS8.out.tk d)
            go_wp2_with fail
            refine HDO.out.mono ?_
            rintro e w9 ⟨rfl, P9, X9, M9, hg9, hn9⟩
            have HS9 := Lib.hid (HS8.out.call hg9 hn9 HTK.out HID.out.1 HID.out.2)
            clear hg9 hn9 HDO
            go_wp2_with fail
            go_roundw
            case rel => exact ⟨i + 1, P9, X9, M9, doN (dropN N6 (1001 + (kd : Int))) d, _, _, _, by omega, by omega, by go_num, rfl, Lib.hid (HS9.out.up (by omega))⟩
            case measure => simp [intOf]; omega
          · have i3 : ¬ (i : Int) < (n2 : Int) := by omega
            have HDO := Lib.hid (do_any HS6.out.nd HS6.out.tk d HDI.out (by omega))
            unfold ddC at HDO
            have HID := Lib.hid (doN_ids N6 d)
            have HTK := Lib.hid (doN_all tk_inv HS6.out.tk d)
            go_wp2_with fail
            refine HDO.out.mono ?_
            rintro e w9 ⟨rfl, P9, X9, M9, hg9, hn9⟩
            have HS9 := Lib.hid (HS6.out.call hg9 hn9 HTK.out HID.out.1 HID.out.2)
            clear hg9 hn9 HDO
            go_wp2_with fail
            go_roundw
            case rel => exact ⟨i + 1, P9, X9, M9, doN N6 d, _, _, _, by omega, by omega, by go_num, rfl, Lib.hid (HS9.out.up (by omega))⟩
            case measure => simp [intOf]; omega
    · obtain rfl : i = l.length := by omega
      go_wp2_with fail
      refine HSP9.out.mono ?_
      rintro e w9 ⟨rfl, rfl⟩
      have g9 : decide ((Hs.length : Int) ≤ (Ni.spawned : Int)) = true := decide_eq_true (by omega)
      go_wp2_with fail
      refine bodyPost_ret (v := .bool true) (by simp [results, Tryz.results9, go_sem]) rfl ⟨rfl, HEND.out⟩
end Go.Proofs.YtjjfglbcikaicaaGreat
