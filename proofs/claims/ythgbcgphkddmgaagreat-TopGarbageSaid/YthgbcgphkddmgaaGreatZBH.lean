/- Who can never be reached again: start. -/
import Derived.Test.YthgbcgphkddmgaaGreatZBG
namespace Go.Proofs.YthgbcgphkddmgaaGreat
open Go.RowKit Go.Maps
set_option linter.unusedVariables false
set_option linter.unusedSimpArgs false
theorem numIn_Sl {w : World} {A : Option Addr} {c : Nat} {l : List Int} {B : Nat → Prop} (h : NumIn w B (.slice A l.length c) l) (hB : ∀ b, B b → b < w.heap.size) : Li.Sl w (.slice A l.length c) l := by
  obtain ⟨A0, c0, e, h1, h2, h3⟩ := h
  injection e with e1 _ e3
  subst e1 e3
  refine ⟨A, c, rfl, h1, h2, fun hA => ?_, fun h0 => ?_⟩
  · by_cases h0 : 0 < l.length
    · obtain ⟨b, off, e2, _⟩ := h3 h0
      rw [hA] at e2
      cases e2
    · omega
  · obtain ⟨b, off, e2, hb, hc⟩ := h3 h0
    refine ⟨b, off, e2, hB b hb, fun i hi j u hu => ?_⟩
    match j, hu with
    | 0, hu =>
      rw [Nat.mul_one, Nat.add_zero, hc i hi]
      exact hu
def liveK (K : List KqS) (q : Nat) : List Int := ((K.take q).filter fun k => k.root || k.awake).map (·.ref)
theorem liveK_succ {K : List KqS} {q : Nat} (h : q < K.length) : liveK K (q + 1) = liveK K q ++ (if (kqN K q).root || (kqN K q).awake then [(kqN K q).ref] else []) := by
  unfold liveK
  rw [List.take_add_one, kqN_at h, List.filter_append, List.map_append]
  congr 1
  show List.map _ (List.filter _ [kqN K q]) = _
  rcases hc : ((kqN K q).root || (kqN K q).awake) with _ | _ <;> simp [hc]
theorem und_mil : Tryz.prog.underlying 231 = some (.map 3 31) := Tryz.underlying231
theorem mkMil : ∀ w, (Instr.makeMap 231 none).run Tryz.prog w = .ok (.map (some w.heap.size)) (w.alloc (.map #[] 0)) := fun w => by kernel_rfl
/-- the references of the first records, in a map -/
def rfG (K : List KqS) (q : Nat) (Vf : Int → Value) : Int → Option Value := fun x => if x ∈ refsK K q then some (Vf x) else none
def updI (f : Int → Value) (x : Int) (u : Value) : Int → Value := fun y => if y = x then u else f y
theorem updI_self (f : Int → Value) (x : Int) (u : Value) : updI f x u x = u := if_pos rfl
theorem updI_ne (f : Int → Value) {x y : Int} (u : Value) (h : y ≠ x) : updI f x u y = f y := if_neg h
/-- where start's loop stands; s: the first new block -/
structure StR (w : World) (s : Nat) (K : List KqS) (q : Nat) (L : List Int) (v : Value) (Vf : Int → Value) (wr : World) : Prop where
  c0 : wr.cell? ⟨s + 3, 0, none⟩ = some (.map (some s))
  c1 : wr.cell? ⟨s + 3, 1, none⟩ = some (.map (some (s + 1)))
  c2 : wr.cell? ⟨s + 3, 2, none⟩ = some (.slice none 0 0)
  c3 : wr.cell? ⟨s + 3, 3, none⟩ = some (.map (some (s + 2)))
  c4 : wr.cell? ⟨s + 3, 4, none⟩ = some (.int .i64 0)
  mr : ∃ n, n ≤ q ∧ OwnM wr s n (rfG K q Vf)
  mm : OwnM wr (s + 1) 0 (fun _ => none)
  mt : OwnM wr (s + 2) 0 (fun _ => none)
  fl : OwnI wr (s + 4) v L
  rw : ∀ j, j < q → OwnI wr (s + 4) (Vf (kqN K j).ref) (kqN K j).refs
  ap : ∀ j, j < q → ∀ k, (Vf (kqN K j).ref).ownBlock = some k → v.ownBlock ≠ some k
  be : Below s w wr
  sz : s + 4 ≤ wr.heap.size
theorem StR.new {w wr w' : World} {s q : Nat} {K : List KqS} {L : List Int} {v : Value} {Vf : Int → Value} (h : StR w s K q L v Vf wr) (hf : Fr (fun _ => False) wr w') : StR w s K q L v Vf w' := by
  obtain ⟨n, hn, hm⟩ := h.mr
  have no : ∀ k : Nat, ¬ (fun _ : Nat => False) k := fun _ h => h
  exact ⟨hf.cell h.c0 (fun h => h), hf.cell h.c1 (fun h => h), hf.cell h.c2 (fun h => h), hf.cell h.c3 (fun h => h), hf.cell h.c4 (fun h => h), ⟨n, hn, hm.fr hf (fun h => h)⟩, h.mm.fr hf (fun h => h), h.mt.fr hf (fun h => h), hf.row h.fl (fun _ _ h => h), fun j hj => hf.row (h.rw j hj) (fun _ _ h => h), h.ap, h.be.trans (hf.below (fun _ h => h.elim) (Nat.le_trans (Nat.le_add_right s 4) h.sz)), Nat.le_trans h.sz hf.size⟩
/-- a row of references has been stored -/
theorem StR.put {w wr w1 w' : World} {s q : Nat} {K : List KqS} {L : List Int} {v : Value} {Vf : Int → Value} {u : Value} (ok : KqOk K) (hq : q < K.length) (h : StR w s K q L v Vf wr) (hb : Fr (fun _ => False) wr w1) (hu : OwnI w1 wr.heap.size u (kqN K q).refs) {n : Nat}
    (ho : OwnM w' s n (fun y => if y = (kqN K q).ref then some u else rfG K q Vf y)) (hn : n ≤ q + 1) (hg : w1.grownBy w' (some s)) : ∃ Vf', StR w s K (q + 1) L v Vf' w' := by
  have hfr := ok.fresh hq
  have hs := h.sz
  have hf : Fr (fun k => k = s) w1 w' := Fr.of_grown hg (fun b hb => .inl (by injection hb with hb; exact hb.symm))
  have hold : ∀ j, j < q → (kqN K j).ref ∈ refsK K q := fun j hj => by
    unfold refsK
    exact List.mem_map.2 ⟨kqN K j, List.mem_of_getElem? (i := j) (by rw [List.getElem?_take]; simp [hj, kqN_at (show j < K.length by omega)]), rfl⟩
  have hkeep : ∀ {z : Value} {l : List Int} {B : Nat}, s < B → OwnI w1 B z l → OwnI w' B z l := fun hB hz => hf.row hz (fun k hk e => by have := (hz.blk k hk).1; omega)
  have hne : ∀ y, y ∈ refsK K q → y ≠ (kqN K q).ref := fun y hy e => hfr (e ▸ hy)
  have hc : ∀ j u, wr.cell? ⟨s + 3, j, none⟩ = some u → w'.cell? ⟨s + 3, j, none⟩ = some u := fun j u hu => hf.cell (hb.cell hu (fun h => h)) (by omega)
  have hsz1 := hb.size
  have hbe : Below s w w' := (h.be.trans (hb.below (base := s) (fun _ h => h.elim) (by omega))).grown hg (by omega) (fun g e => by injection e with e; omega)
  refine ⟨updI Vf (kqN K q).ref u, hc _ _ h.c0, hc _ _ h.c1, hc _ _ h.c2, hc _ _ h.c3, hc _ _ h.c4, ⟨n, hn, ho.congr (fun y _ => ?_)⟩, (h.mm.fr hb (fun h => h)).fr hf (by omega), (h.mt.fr hb (fun h => h)).fr hf (by omega), hkeep (by omega) (hb.row h.fl (fun _ _ h => h)), fun j hj => ?_, fun j hj k hk => ?_, hbe, Nat.le_trans h.sz (Nat.le_trans hb.size hf.size)⟩
  · unfold rfG
    rw [refsK_succ hq]
    by_cases e : y = (kqN K q).ref
    · subst e
      rw [if_pos (by simp), if_pos rfl, updI_self]
    · rw [if_neg e, updI_ne _ _ e]
      by_cases e2 : y ∈ refsK K q
      · rw [if_pos (by simp [e2]), if_pos e2]
      · rw [if_neg (by simp [e2, e]), if_neg e2]
  · by_cases e : j = q
    · subst e
      rw [updI_self]
      exact (hkeep (by omega) hu).mono (by omega)
    · rw [updI_ne _ _ (hne _ (hold j (by omega)))]
      exact hkeep (by omega) (hb.row (h.rw j (by omega)) (fun _ _ h => h))
  · by_cases e : j = q
    · subst e
      rw [updI_self] at hk
      intro hv
      have h1 := (hu.blk k hk).1
      have h2 := (h.fl.blk k hv).2
      omega
    · rw [updI_ne _ _ (hne _ (hold j (by omega)))] at hk
      exact h.ap j (by omega) k hk
/-- one more number in the list -/
theorem StR.app {w wr w6 : World} {s q : Nat} {K : List KqS} {L L' : List Int} {v v' : Value} {Vf : Int → Value} (h : StR w s K q L v Vf wr) (hO : OwnI w6 (s + 4) v' L') (hf : Fr (fun k => v.ownBlock = some k) wr w6) (hat : v'.ownBlock = v.ownBlock ∨ ∃ g, v'.ownBlock = some g ∧ wr.heap.size ≤ g) : StR w s K q L' v' Vf w6 := by
  obtain ⟨n, hn, hm⟩ := h.mr
  have hv : ∀ k, v.ownBlock = some k → s + 4 ≤ k := fun k hk => (h.fl.blk k hk).1
  have hs := h.sz
  have hne : ∀ k, k < s + 4 → ¬ v.ownBlock = some k := fun k hk e => by have := hv k e; omega
  exact ⟨hf.cell h.c0 (hne _ (by omega)), hf.cell h.c1 (hne _ (by omega)), hf.cell h.c2 (hne _ (by omega)), hf.cell h.c3 (hne _ (by omega)), hf.cell h.c4 (hne _ (by omega)), ⟨n, hn, hm.fr hf (hne _ (by omega))⟩, h.mm.fr hf (hne _ (by omega)), h.mt.fr hf (hne _ (by omega)), hO, fun j hj => hf.row (h.rw j hj) (fun k hk e => h.ap j hj k hk e), fun j hj k hk e => by
    rcases hat with e2 | ⟨g, e2, hg⟩
    · exact h.ap j hj k hk (e2.symm.trans e)
    · rw [e2] at e
      injection e with e
      have := ((h.rw j hj).blk k hk).2
      omega, h.be.trans (hf.below (fun k hk => by have := hv k hk; omega) (by omega)), Nat.le_trans h.sz hf.size⟩
set_option maxRecDepth 100000 in
set_option maxHeartbeats 8000000 in
theorem cyc_start (w : World) (A : Option Addr) (c : Nat) (K : List KqS) (ok : KqOk K) (h : KqIn w A K) : Calls Tryz.prog 132 #[.slice A K.length c] w fun e w' => ∃ v Vf, e = .returned (.tuple #[.pointer (some ⟨w.heap.size + 3, 0, none⟩), v]) ∧ StR w w.heap.size K K.length (liveK K K.length) v Vf w' := by
  have HK := Lib.hid h
  have HOK := Lib.hid ok
  have h480 := ok.len
  have hmk := mkMib
  have hmk2 := mkMil
  obtain ⟨s, hs⟩ : ∃ s, s = w.heap.size := ⟨_, rfl⟩
  have HS0 := Lib.hid (show ∀ W, W = (((w.alloc (.map #[] 0)).alloc (.map #[] 0)).alloc (.map #[] 0)).alloc (.cells #[.map (some w.heap.size), .map (some (w.heap.size + 1)), .slice none 0 0, .map (some (w.heap.size + 2)), .int .i64 0] 233) → StR w w.heap.size K 0 (liveK K 0) (.slice none 0 0) (fun _ => .slice none 0 0) W from fun W hW => by
    have hc : ∀ j u, ([.map (some w.heap.size), .map (some (w.heap.size + 1)), .slice none 0 0, .map (some (w.heap.size + 2)), .int .i64 0] : List Value)[j]? = some u → W.cell? ⟨w.heap.size + 3, j, none⟩ = some u := fun j u hj => by
      rw [hW]
      have := cell_newL (((w.alloc (.map #[] 0)).alloc (.map #[] 0)).alloc (.map #[] 0)) _ 233 (w.heap.size + 3) (by simp) j u hj
      rw [Addr.add_lit, Nat.zero_add] at this
      exact this
    have f1 : Fr (fun _ => False) (w.alloc (.map #[] 0)) W := by rw [hW]; exact (((Fr.refl _ _).alloc _).alloc _).alloc _
    have f2 : Fr (fun _ => False) ((w.alloc (.map #[] 0)).alloc (.map #[] 0)) W := by rw [hW]; exact ((Fr.refl _ _).alloc _).alloc _
    have f3 : Fr (fun _ => False) (((w.alloc (.map #[] 0)).alloc (.map #[] 0)).alloc (.map #[] 0)) W := by rw [hW]; exact (Fr.refl _ _).alloc _
    have o1 := (OwnM.made w).fr f1 (fun h => h)
    have o2 : OwnM W (w.heap.size + 1) 0 (fun _ => none) := by
      have := (OwnM.made (w.alloc (.map #[] 0))).fr f2 (fun h => h)
      simpa using this
    have o3 : OwnM W (w.heap.size + 2) 0 (fun _ => none) := by
      have := (OwnM.made ((w.alloc (.map #[] 0)).alloc (.map #[] 0))).fr f3 (fun h => h)
      simpa using this
    have hb : Below w.heap.size w W := by rw [hW]; exact ((((Below.refl _ _).alloc (Nat.le_refl _) _).alloc (by simp) _).alloc (by simp; omega) _).alloc (by simp; omega) _
    exact ⟨hc 0 _ rfl, hc 1 _ rfl, hc 2 _ rfl, hc 3 _ rfl, hc 4 _ rfl, ⟨0, Nat.le_refl _, o1.congr (fun x _ => by unfold rfG refsK; simp)⟩, o2, o3, OwnI.nil _ _, fun j hj => by omega, fun j hj => by omega, hb, by rw [hW]; simp⟩)
  clear h ok
  go_enter Tryz.func132, Tryz.ntmps132
  go_wp2_with fail
  go_loopw [5, 7, 15] (fun v5 _ v wr => ∃ (q : Nat) (Vf : Int → Value), q ≤ K.length ∧ v = .int .i64 (q : Int) ∧ Hid (StR w w.heap.size K q (liveK K q) v5 Vf wr)) (fun _ _ v _ => K.length - (intOf v).toNat)
  case atStart => exact ⟨0, _, Nat.zero_le _, rfl, Lib.hid (HS0.out _ rfl)⟩
  case round =>
    clear HS0
    obtain ⟨q, Vf, hq, rfl, HR⟩ := hrel
    by_cases hlt : q < K.length
    · obtain ⟨b, off, V, rfl, hb, hc⟩ := (HK.out.fr (Fr.of_below HR.out.be)) (by omega)
      have hcq := (hc q hlt).1
      have x0 : wr.cell? ⟨b, off + q * 4, none⟩ = some (.int .i64 (kqN K q).ref) := hcq 0 _ rfl
      have x1 := hcq 1 _ rfl
      have x2 := hcq 2 _ rfl
      have x3 := hcq 3 _ rfl
      obtain ⟨Aq, cq, hVq, -⟩ := (hc q hlt).2
      have hni := (hc q hlt).2
      rw [hVq] at x3 hni
      obtain ⟨W2, hW2⟩ : ∃ W2, W2 = wr.alloc (.cells #[.int .i64 (kqN K q).ref, .bool (kqN K q).awake, .bool (kqN K q).root, .slice Aq (kqN K q).refs.length cq] 119) := ⟨_, rfl⟩
      have hf2 : Fr (fun _ => False) wr W2 := by rw [hW2]; exact (Fr.refl _ _).alloc _
      have HW2 := Lib.hid hW2
      have d0 : W2.cell? ⟨wr.heap.size, 0, none⟩ = some (.int .i64 (kqN K q).ref) := by rw [hW2]; simp [go_sem]
      have d1 : W2.cell? ⟨wr.heap.size, 1, none⟩ = some (.bool (kqN K q).awake) := by rw [hW2]; simp [go_sem]
      have d2 : W2.cell? ⟨wr.heap.size, 2, none⟩ = some (.bool (kqN K q).root) := by rw [hW2]; simp [go_sem]
      have d3 : W2.cell? ⟨wr.heap.size, 3, none⟩ = some (.slice Aq (kqN K q).refs.length cq) := by rw [hW2]; simp [go_sem]
      have hwl : wr.heap.size < W2.heap.size := by rw [hW2]; simp
      have HR2 := Lib.hid (HR.out.new hf2)
      have k0 := HR2.out.c0
      have hk0 : w.heap.size + 3 < W2.heap.size := World.block_lt_of_cell? W2 _ k0
      have HSL := Lib.hid (numIn_Sl (w := W2.drew) (hni.fr (B' := fun k => k < W2.heap.size) (hf2.drew) (fun _ _ h => h) (fun k hk => Nat.lt_of_lt_of_le hk hf2.size)) (fun _ h => h))
      have i1 : (0 : Int) ≤ (q : Int) := by omega
      have i2 : (q : Int) < (K.length : Int) := by omega
      have HN := Lib.hid hlt
      have hwf := (HOK.out.wf _ (kqN_mem hlt)).1
      have HSZ := Lib.hid (show w.heap.size + 4 ≤ wr.heap.size from HR.out.sz)
      have HLEN := Lib.hid (HOK.out.long _ (kqN_mem hlt))
      have HMR := Lib.hid (show ∀ (W : World) (A3 : Option Addr) (c3 : Nat), Fr (fun _ => False) W2 W → ∃ w4 n, (Instr.mapUpdate 231 (.map (some w.heap.size)) (.int .i64 (kqN K q).ref) (.slice A3 (kqN K q).refs.length c3)).run Tryz.prog W = .ok () w4 ∧ n ≤ q + 1 ∧ OwnM w4 w.heap.size n (fun y => if y = (kqN K q).ref then some (.slice A3 (kqN K q).refs.length c3) else rfG K q Vf y) ∧ W.grownBy w4 (some w.heap.size) from fun W A3 c3 hf => by
        obtain ⟨n, hn, hm⟩ := HR2.out.mr
        obtain ⟨w4, h1, h2, h3⟩ := OwnM.store und_mil (hm.fr hf (fun h => h)) (by unfold maxLen; omega) (kqN K q).ref (.slice A3 (kqN K q).refs.length c3) hwf
        exact ⟨w4, _, h1, by split <;> omega, h2, h3⟩)
      clear hc hcq hni hf2 hW2 HR hwf
      go_wp2_with fail
      rw [← HW2.out]
      go_cut [] (fun wx => (∃ Vf', Hid (StR w w.heap.size K (q + 1) (liveK K q) u5 Vf' wx)) ∧ wx.cell? ⟨wr.heap.size, 0, none⟩ = some (.int .i64 (kqN K q).ref) ∧ wx.cell? ⟨wr.heap.size, 1, none⟩ = some (.bool (kqN K q).awake) ∧ wx.cell? ⟨wr.heap.size, 2, none⟩ = some (.bool (kqN K q).root))
      case first =>
        go_region_with (first | (go_at_call 24; refine (Li.cloneSl Aq cq (kqN K q).refs W2.drew HSL.out HLEN.out).mono ?_; rintro e w3 ⟨A3, c3, rfl, hown3, hb3⟩; have HF3 := Lib.hid (show Fr (fun _ => False) W2 w3 from ((Fr.refl _ W2).drew).trans' (Fr.of_below hb3)); have yk := HF3.out.cell k0 (fun h => h); have y0 := HF3.out.cell d0 (fun h => h); have y1 := HF3.out.cell d1 (fun h => h); have y2 := HF3.out.cell d2 (fun h => h); have y3 := HF3.out.cell d3 (fun h => h); obtain ⟨w4, n4, hrun, hn4, ho4, hg4⟩ := HMR.out w3 A3 c3 HF3.out))
        all_goals
          go_wp2_with fail
          go_meet
          obtain ⟨Vf', h'⟩ := StR.put HOK.out HN.out HR2.out HF3.out hown3 ho4 hn4 hg4
          have hf4 : Fr (fun k => k = w.heap.size) w3 w4 := Fr.of_grown hg4 (fun b hb => .inl (by injection hb with hb; exact hb.symm))
          have hne : wr.heap.size ≠ w.heap.size := by have := HSZ.out; omega
          exact ⟨⟨Vf', Lib.hid h'⟩, hf4.cell y0 hne, hf4.cell y1 hne, hf4.cell y2 hne⟩
      case rest =>
        rename World => wx
        obtain ⟨⟨Vf', HR3⟩, z0, z1, z2⟩ := hcut
        clear HMR HSL d0 d1 d2 d3 k0 x0 x1 x2 x3 hb HW2 HR2 hwl hk0
        have hls := liveK_succ HN.out
        have HLS := Lib.hid hls
        clear hls
        obtain ⟨A5, c5, rfl, -, -, -⟩ := own_any HR3.out.fl
        have HFL := Lib.hid HR3.out.fl
        have hsx := HR3.out.sz
        have hLl : (liveK K q).length ≤ q := by
          unfold liveK
          rw [List.length_map]
          exact Nat.le_trans (List.length_filter_le _ _) (by rw [List.length_take]; omega)
        obtain ⟨rt, hrt⟩ : ∃ rt, (kqN K q).root = rt := ⟨_, rfl⟩
        obtain ⟨aw, haw⟩ : ∃ aw, (kqN K q).awake = aw := ⟨_, rfl⟩
        rw [hrt] at z2 HLS
        rw [haw] at z1 HLS
        obtain ⟨x, hx⟩ : ∃ x, (kqN K q).ref = x := ⟨_, rfl⟩
        rw [hx] at z0 HLS
        clear hrt haw hx
        rcases rt with _ | _
        · rcases aw with _ | _
          · go_wp2_with fail
            exact ⟨⟨q + 1, Vf', by omega, by go_num, Lib.hid (by rw [HLS.out]; simpa using HR3.out)⟩, by simp [intOf]; omega⟩
          · go_wp2_with (at_builtin; go_loud (refine wpList_append_int rfl _ _ rfl (w.heap.size + 4) (.slice A5 (liveK K q).length c5) (liveK K q) rfl HFL.out wx.heap.size rfl x rfl (by omega) (by omega) ?_; intro v6 w6 hO6 hg6 hat6; have HO6 := Lib.hid hO6; have HG6 := Lib.hid hg6; have HA6 := Lib.hid hat6; clear hO6 hg6 hat6))
            exact ⟨⟨q + 1, Vf', by omega, by go_num, Lib.hid (by
              rw [HLS.out]
              exact HR3.out.app (by simpa using HO6.out) (Fr.of_grown HG6.out (fun k hk => .inl hk)) (by
                rcases HA6.out with e | e
                · exact .inl e
                · exact .inr ⟨_, e, by omega⟩))⟩, by simp [intOf]; omega⟩
        · rcases aw with _ | _
          all_goals
            go_wp2_with (at_builtin; go_loud (refine wpList_append_int rfl _ _ rfl (w.heap.size + 4) (.slice A5 (liveK K q).length c5) (liveK K q) rfl HFL.out wx.heap.size rfl x rfl (by omega) (by omega) ?_; intro v6 w6 hO6 hg6 hat6; have HO6 := Lib.hid hO6; have HG6 := Lib.hid hg6; have HA6 := Lib.hid hat6; clear hO6 hg6 hat6))
            exact ⟨⟨q + 1, Vf', by omega, by go_num, Lib.hid (by
              rw [HLS.out]
              exact HR3.out.app (by simpa using HO6.out) (Fr.of_grown HG6.out (fun k hk => .inl hk)) (by
                rcases HA6.out with e | e
                · exact .inl e
                · exact .inr ⟨_, e, by omega⟩))⟩, by simp [intOf]; omega⟩
    · obtain rfl : q = K.length := by omega
      have hd : decide ((K.length : Int) < (K.length : Int)) = false := decide_eq_false (by omega)
      go_wp2_with fail
      exact bodyPost_ret (results_two Tryz.results132 _ _) rfl ⟨_, Vf, rfl, HR.out⟩
end Go.Proofs.YthgbcgphkddmgaaGreat
