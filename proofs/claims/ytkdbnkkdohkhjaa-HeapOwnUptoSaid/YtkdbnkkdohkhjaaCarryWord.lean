/- Carrying words: (*transfer).word. -/
import Derived.Test.YtkdbnkkdohkhjaaCarryPlain
import Derived.Test.YtkdbnkkdohkhjaaMapU
import Derived.Test.YtkdbnkkdohkhjaaInts
import Derived.Test.YtkdbnkkdohkhjaaHeapAt
import Derived.Test.YtkdbnkkdohkhjaaHeapPut
import Derived.Deep.DeepCutAuto
import Derived.Deep.RegionHeld3
namespace Go.Proofs.Ytkdbnkkdohkhjaa
open Go.RowKit
set_option linter.unusedVariables false
theorem okR_at {w : Nat} (h : okR (w : Int) = true) (ht : tagOf (w : Int) = 4) : numOf (w : Int) = ((atOf w : Nat) : Int) ∧ atOf w < 1152921504606846976 := by
  unfold okR at h
  rw [ht] at h
  unfold atOf
  generalize numOf (w : Int) = n at *
  simp [validB] at h
  omega
/-- the copies as a map -/
def mapC (cp : List (Nat × Nat)) : Int → Option Int := fun y => if y < 0 then none else (look cp y.toNat).map fun p => ((cw p : Nat) : Int)
theorem mapC_at (cp : List (Nat × Nat)) (a : Nat) : mapC cp (a : Int) = (look cp a).map fun p => ((cw p : Nat) : Int) := by
  unfold mapC
  rw [if_neg (by omega), Int.toNat_natCast]
theorem mapC_cons (cp : List (Nat × Nat)) (a p : Nat) : (fun y => if y = (a : Int) then some ((cw p : Nat) : Int) else mapC cp y) = mapC ((a, p) :: cp) := by
  funext y
  unfold mapC
  by_cases hy : y < 0
  · rw [if_neg (by omega), if_pos hy, if_pos hy]
  · rw [if_neg hy, if_neg hy]
    simp only [look]
    by_cases e : y = (a : Int)
    · rw [if_pos e, if_pos (by omega)]; rfl
    · rw [if_neg e, if_neg (by omega)]
/-- the transfer lies at bt, its map at bm -/
structure TS (h : List Nat) (fA : Option Addr) (fc bt bm B : Nat) (wx : World) (st : CS) (tv cv : Value) : Prop where
  f : wx.cell? ⟨bt, 0, none⟩ = some (.slice fA h.length fc)
  t : wx.cell? ⟨bt, 1, none⟩ = some tv
  m : wx.cell? ⟨bt, 2, none⟩ = some (.map (some bm))
  c : wx.cell? ⟨bt, 3, none⟩ = some cv
  fr : ∀ o, wx.frozen? ⟨bt, o, none⟩ = false
  frm : OwnU wx B (.slice fA h.length fc) h
  tow : OwnU wx B tv st.to
  map : OwnMU wx bm st.cp.length (mapC st.cp)
  cells : OwnI wx B cv (st.cells.map fun a : Nat => (a : Int))
  fb : ∀ k, (Value.slice fA h.length fc).ownBlock = some k → k ≠ bt ∧ k ≠ bm ∧ cv.ownBlock ≠ some k
  tb : ∀ k, tv.ownBlock = some k → k ≠ bt ∧ k ≠ bm ∧ cv.ownBlock ≠ some k
  cb : ∀ k, cv.ownBlock = some k → k ≠ bt ∧ k ≠ bm
  b1 : B ≤ bt
  b2 : B ≤ bm
  b3 : bt ≠ bm
  b4 : bt < wx.heap.size
/-- what a transfer may change -/
structure Fr (w w' : World) (bt bm : Nat) (cb : Option Nat) : Prop where
  os : w'.os = w.os
  tape : w'.tape = w.tape
  output : w'.output = w.output
  size : w.heap.size ≤ w'.heap.size
  block : ∀ k, k < w.heap.size → k ≠ bt → k ≠ bm → cb ≠ some k → w'.heap[k]? = w.heap[k]?
theorem Fr.of_grown {w w' : World} {bt bm : Nat} {cb row : Option Nat} (h : w.grownBy w' row) (hr : ∀ k, row = some k → k = bt ∨ k = bm ∨ cb = some k ∨ w.heap.size ≤ k) : Fr w w' bt bm cb :=
  ⟨h.os, h.tape, h.output, h.size, fun k hk h1 h2 h3 => h.block k hk (fun e => by rcases hr k e.symm with h | h | h | h; exact h1 h; exact h2 h; exact h3 h; omega)⟩
theorem Fr.refl (w : World) (bt bm : Nat) (cb : Option Nat) : Fr w w bt bm cb := ⟨rfl, rfl, rfl, Nat.le_refl _, fun _ _ _ _ _ => rfl⟩
theorem Fr.trans {w w1 w2 : World} {bt bm : Nat} {cb cb1 : Option Nat} (h1 : Fr w w1 bt bm cb) (h2 : Fr w1 w2 bt bm cb1) (hc : cb1 = cb ∨ ∀ k, cb1 = some k → w.heap.size ≤ k) : Fr w w2 bt bm cb := by
  refine ⟨h2.os.trans h1.os, h2.tape.trans h1.tape, h2.output.trans h1.output, Nat.le_trans h1.size h2.size, fun k hk e1 e2 e3 => ?_⟩
  rw [h2.block k (Nat.lt_of_lt_of_le hk h1.size) e1 e2 ?_, h1.block k hk e1 e2 e3]
  rcases hc with rfl | hc
  · exact e3
  · intro e; have := hc k e; omega
theorem Fr.step {w w1 w2 : World} {bt bm : Nat} {cb row : Option Nat} (h1 : Fr w w1 bt bm cb) (h2 : w1.grownBy w2 row) (hr : ∀ k, row = some k → k = bt ∨ k = bm ∨ cb = some k ∨ w.heap.size ≤ k) : Fr w w2 bt bm cb := by
  refine ⟨h2.os.trans h1.os, h2.tape.trans h1.tape, h2.output.trans h1.output, Nat.le_trans h1.size h2.size, fun k hk e1 e2 e3 => ?_⟩
  rw [h2.block k (Nat.lt_of_lt_of_le hk h1.size) ?_, h1.block k hk e1 e2 e3]
  intro e
  rcases hr k e.symm with h | h | h | h
  · exact e1 h
  · exact e2 h
  · exact e3 h
  · omega
theorem Fr.cell {w w1 : World} {bt bm b o : Nat} {cb : Option Nat} (h : Fr w w1 bt bm cb) (hb : b < w.heap.size) (e1 : b ≠ bt) (e2 : b ≠ bm) (e3 : cb ≠ some b) : w1.cell? ⟨b, o, none⟩ = w.cell? ⟨b, o, none⟩ := World.cell?_of_block (a := ⟨b, o, none⟩) (h.block b hb e1 e2 e3)
theorem Fr.frozen {w w1 : World} {bt bm b o : Nat} {cb : Option Nat} (h : Fr w w1 bt bm cb) (hb : b < w.heap.size) (e1 : b ≠ bt) (e2 : b ≠ bm) (e3 : cb ≠ some b) : w1.frozen? ⟨b, o, none⟩ = w.frozen? ⟨b, o, none⟩ := World.frozen?_of_block (a := ⟨b, o, none⟩) (h.block b hb e1 e2 e3)
theorem Fr.below {w w1 : World} {bt bm B : Nat} {cb : Option Nat} (h : Fr w w1 bt bm cb) (hB : B ≤ w.heap.size) (h1 : B ≤ bt) (h2 : B ≤ bm) (h3 : ∀ k, cb = some k → B ≤ k) : Below B w w1 :=
  ⟨h.os, h.tape, h.output, h.size, fun k hk => h.block k (by omega) (by omega) (by omega) (fun e => by have := h3 k e; omega)⟩
/-- a transfer stays, whatever is made or changed besides -/
theorem TS.grown {h : List Nat} {fA : Option Addr} {fc bt bm B : Nat} {wx wy : World} {st : CS} {tv cv : Value} {row : Option Nat} (H : TS h fA fc bt bm B wx st tv cv) (hg : wx.grownBy wy row) (hr : ∀ k, row = some k → k ≠ bt ∧ k ≠ bm ∧ (Value.slice fA h.length fc).ownBlock ≠ some k ∧ tv.ownBlock ≠ some k ∧ cv.ownBlock ≠ some k) : TS h fA fc bt bm B wy st tv cv := by
  have k0 : ∀ o, wy.cell? ⟨bt, o, none⟩ = wx.cell? ⟨bt, o, none⟩ := fun o => grown_cell hg H.b4 (fun e => (hr bt e.symm).1 rfl)
  exact ⟨(k0 _).trans H.f, (k0 _).trans H.t, (k0 _).trans H.m, (k0 _).trans H.c, fun o => (grown_frozen hg H.b4 (fun e => (hr bt e.symm).1 rfl)).trans (H.fr o), H.frm.grown hg (fun k hk e => (hr k e).2.2.1 hk), H.tow.grown hg (fun k hk e => (hr k e).2.2.2.1 hk), H.map.kept hg (fun e => (hr bm e.symm).2.1 rfl), H.cells.grown hg (fun k hk e => (hr k e).2.2.2.2 hk), H.fb, H.tb, H.cb, H.b1, H.b2, H.b3, Nat.lt_of_lt_of_le H.b4 hg.size⟩
theorem TS.below {h : List Nat} {fA : Option Addr} {fc bt bm B : Nat} {wx wy : World} {st : CS} {tv cv : Value} (H : TS h fA fc bt bm B wx st tv cv) (hb : Below wx.heap.size wx wy) : TS h fA fc bt bm B wy st tv cv := H.grown (grown_below (g := none) hb) (by simp)
/-- the box of an object -/
structure BX (wx : World) (b : Nat) (a kd nm : Int) (tx : ByteArray) (v : Value) : Prop where
  x0 : wx.cell? ⟨b, 0, none⟩ = some (.int .i64 a)
  x1 : wx.cell? ⟨b, 1, none⟩ = some (.int .i64 kd)
  x2 : wx.cell? ⟨b, 2, none⟩ = some (.int .i64 nm)
  x3 : wx.cell? ⟨b, 3, none⟩ = some (.string tx)
  x4 : wx.cell? ⟨b, 4, none⟩ = some v
theorem BX.of {wx wy : World} {b : Nat} {a kd nm : Int} {tx : ByteArray} {v : Value} (h : BX wx b a kd nm tx v) (hb : ∀ o, wy.cell? ⟨b, o, none⟩ = wx.cell? ⟨b, o, none⟩) : BX wy b a kd nm tx v :=
  ⟨(hb _).trans h.x0, (hb _).trans h.x1, (hb _).trans h.x2, (hb _).trans h.x3, (hb _).trans h.x4⟩
theorem ownU_fr {w w1 : World} {base bt bm : Nat} {cb : Option Nat} {v : Value} {l : List Nat} (h : OwnU w base v l) (hf : Fr w w1 bt bm cb) (hk : ∀ k, v.ownBlock = some k → k ≠ bt ∧ k ≠ bm ∧ cb ≠ some k) : OwnU w1 base v l := by
  obtain ⟨h1, h2⟩ := h
  refine ⟨h1, ?_⟩
  rcases h2 with h2 | ⟨g, cap, cur, hv, hb, hg, rest⟩
  · exact .inl h2
  · obtain ⟨k1, k2, k3⟩ := hk g (by rw [hv]; rfl)
    exact .inr ⟨g, cap, cur, hv, hb, (hf.block g (Array.getElem?_eq_some_iff.1 hg).1 k1 k2 k3).trans hg, rest⟩
/-- a copy more: the heap is replaced, the map has one entry more -/
theorem ts_put {h : List Nat} {fA : Option Addr} {fc bt bm B : Nat} {w w7 : World} {st : CS} {tv cv v : Value} {L : List Nat} {a p N : Nat} (H : TS h fA fc bt bm B w st tv cv) (hN : OwnU w N v L) (hB : B ≤ N) (hbt : bt < N) (hbm : bm < N) (hfb : ∀ k, (Value.slice fA h.length fc).ownBlock = some k → k < N) (hcb : ∀ k, cv.ownBlock = some k → k < N)
    (hM : OwnMU w7 bm (st.cp.length + 1) (fun y => if y = (a : Int) then some ((cw p : Nat) : Int) else mapC st.cp y)) (hg : (w.setCell ⟨bt, 1, none⟩ v).grownBy w7 (some bm)) :
    TS h fA fc bt bm B w7 ⟨L, (a, p) :: st.cp, st.cells⟩ v cv := by
  have hgs : w.grownBy (w.setCell ⟨bt, 1, none⟩ v) (some bt) := grown_set (grown_self w _) _
  have hne : some bt ≠ some bm := fun e => by injection e with e; exact H.b3 e
  have hlt : bt < (w.setCell ⟨bt, 1, none⟩ v).heap.size := by simpa using H.b4
  have k0 : ∀ o, o ≠ 1 → w7.cell? ⟨bt, o, none⟩ = w.cell? ⟨bt, o, none⟩ := fun o ho => (grown_cell hg hlt hne).trans (World.cell?_setCell_other _ _ _ _ (fun e => by injection e with _ e; exact ho e.symm))
  have own2 : ∀ {v' : Value} {l : List Nat} {base : Nat}, OwnU w base v' l → (∀ k, v'.ownBlock = some k → k ≠ bt ∧ k ≠ bm) → OwnU w7 base v' l := fun ho hk => (ho.grown hgs (fun k hk' e => (hk k hk').1 (by injection e with e; exact e.symm))).grown hg (fun k hk' e => (hk k hk').2 (by injection e with e; exact e.symm))
  refine ⟨(k0 0 (by omega)).trans H.f, ?_, (k0 2 (by omega)).trans H.m, (k0 3 (by omega)).trans H.c, fun o => ?_, own2 H.frm (fun k hk => ⟨(H.fb k hk).1, (H.fb k hk).2.1⟩), (own2 hN (fun k hk => by have := (hN.blk k hk).1; exact ⟨by omega, by omega⟩)).mono hB, ?_, ?_, H.fb, fun k hk => ?_, H.cb, H.b1, H.b2, H.b3, Nat.lt_of_lt_of_le hlt hg.size⟩
  · exact (grown_cell hg hlt hne).trans (World.cell?_setCell_same _ _ _ H.t)
  · rw [grown_frozen hg hlt hne]
    simpa using H.fr o
  · have e : ((a, p) :: st.cp).length = st.cp.length + 1 := by simp
    rw [e, ← mapC_cons st.cp a p]
    exact hM
  · exact (H.cells.grown hgs (fun k hk e => (H.cb k hk).1 (by injection e with e; exact e.symm))).grown hg (fun k hk e => (H.cb k hk).2 (by injection e with e; exact e.symm))
  · have hb := (hN.blk k hk).1
    exact ⟨by omega, by omega, fun e => by have := hcb k e; omega⟩
/-- a cell more that was emptied -/
theorem ts_cell {h : List Nat} {fA : Option Addr} {fc bt bm B : Nat} {w w8 : World} {st : CS} {tv cv cv8 : Value} {a : Nat} (H : TS h fA fc bt bm B w st tv cv) (hO : OwnI w8 B cv8 (st.cells.map (fun a : Nat => (a : Int)) ++ [(a : Int)])) (hg : w.grownBy w8 cv.ownBlock) (hat : cv8.ownBlock = cv.ownBlock ∨ ∃ k, cv8.ownBlock = some k ∧ w.heap.size ≤ k) :
    TS h fA fc bt bm B (w8.setCell ⟨bt, 3, none⟩ cv8) ⟨st.to, st.cp, st.cells ++ [a]⟩ tv cv8 := by
  have hsz := hg.size
  have hne : some bt ≠ cv.ownBlock := fun e => (H.cb bt e.symm).1 rfl
  have hlt8 : bt < w8.heap.size := Nat.lt_of_lt_of_le H.b4 hsz
  have hgs : w8.grownBy (w8.setCell ⟨bt, 3, none⟩ cv8) (some bt) := grown_set (grown_self w8 _) _
  have k0 : ∀ o, o ≠ 3 → (w8.setCell ⟨bt, 3, none⟩ cv8).cell? ⟨bt, o, none⟩ = w.cell? ⟨bt, o, none⟩ := fun o ho => (World.cell?_setCell_other _ _ _ _ (fun e => by injection e with _ e; exact ho e.symm)).trans (grown_cell hg H.b4 hne)
  have hbm := H.map.lt
  have hcb8 : ∀ k, cv8.ownBlock = some k → k ≠ bt ∧ k ≠ bm := fun k hk => by
    rcases hat with e | ⟨j, e, hj⟩
    · exact H.cb k (e ▸ hk)
    · rw [e] at hk; injection hk with hk; have := H.b4; exact ⟨by omega, by omega⟩
  have hsep : ∀ k, k < w.heap.size → cv.ownBlock ≠ some k → cv8.ownBlock ≠ some k := fun k hk hn => by
    rcases hat with e | ⟨j, e, hj⟩
    · rw [e]; exact hn
    · rw [e]; intro e2; injection e2 with e2; omega
  have own2 : ∀ {v' : Value} {l : List Nat} {base : Nat}, OwnU w base v' l → (∀ k, v'.ownBlock = some k → k ≠ bt ∧ cv.ownBlock ≠ some k) → OwnU (w8.setCell ⟨bt, 3, none⟩ cv8) base v' l := fun ho hk => (ho.grown hg (fun k hk' e => (hk k hk').2 e)).grown hgs (fun k hk' e => (hk k hk').1 (by injection e with e; exact e.symm))
  refine ⟨(k0 0 (by omega)).trans H.f, (k0 1 (by omega)).trans H.t, (k0 2 (by omega)).trans H.m, World.cell?_setCell_same _ _ _ ((grown_cell hg H.b4 hne).trans H.c), fun o => ?_, own2 H.frm (fun k hk => ⟨(H.fb k hk).1, (H.fb k hk).2.2⟩), own2 H.tow (fun k hk => ⟨(H.tb k hk).1, (H.tb k hk).2.2⟩), (H.map.kept hg (fun e => (H.cb bm e.symm).2 rfl)).kept hgs (fun e => by injection e with e; exact H.b3 e.symm), ?_,
    fun k hk => ⟨(H.fb k hk).1, (H.fb k hk).2.1, hsep k (H.frm.blk k hk).2 (H.fb k hk).2.2⟩, fun k hk => ⟨(H.tb k hk).1, (H.tb k hk).2.1, hsep k (H.tow.blk k hk).2 (H.tb k hk).2.2⟩, hcb8, H.b1, H.b2, H.b3, by simpa using hlt8⟩
  · have := (grown_frozen (o := o) hg H.b4 hne).trans (H.fr o)
    simpa using this
  · rw [List.map_append]
    exact hO.grown hgs (fun k hk e => (hcb8 k hk).1 (by injection e with e; exact e.symm))
theorem set_next (qs ps : List Nat) (q p q' : Nat) (hq : qs.length = q) (hlt : q < ps.length) : (qs ++ ps.drop q).set q q' = (qs ++ [q']) ++ ps.drop (q + 1) := by
  rw [List.drop_eq_getElem_cons hlt, List.set_append_right _ _ (by omega), hq, Nat.sub_self, List.set_cons_zero, List.append_assoc]
  rfl
theorem ownU_set {w : World} {base g n cap q : Nat} {l : List Nat} (h : OwnU w base (.slice (some ⟨g, 0, none⟩) n cap) l) (hl : l.length = n) (x : Nat) : OwnU (w.setCell ⟨g, q, none⟩ (.int .u64 (x : Int))) base (.slice (some ⟨g, 0, none⟩) n cap) (l.set q x) := by
  unfold OwnU at h ⊢
  rw [List.length_set]
  rw [hl] at h ⊢
  have := (h.stored q (.int .u64 (x : Int))).1
  have e : (encU l).set q (.int .u64 (x : Int)) = encU (l.set q x) := by unfold encU; rw [List.map_set]
  rw [e] at this
  exact this
def WordPost (h : List Nat) (fA : Option Addr) (fc bt bm B r w : Nat) (st : CS) (tv cv : Value) (W : World) (e : Ending) (W' : World) : Prop :=
  ∃ (q : Nat) (x : Int), e = .returned (.tuple #[.int .u64 (q : Int), .int .i64 x]) ∧ Fr W W' bt bm cv.ownBlock ∧
    ((x ≠ 0 ∧ carW h r w st = none) ∨ (x = 0 ∧ ∃ st' tv' cv', carW h r w st = some (q, st') ∧ TS h fA fc bt bm B W' st' tv' cv' ∧ (cv'.ownBlock = cv.ownBlock ∨ ∃ k, cv'.ownBlock = some k ∧ W.heap.size ≤ k) ∧ (tv'.ownBlock = tv.ownBlock ∨ ∃ k, tv'.ownBlock = some k ∧ W.heap.size ≤ k)))
def WordOk (h : List Nat) (r : Nat) : Prop := ∀ (fA : Option Addr) (fc bt bm B w : Nat) (st : CS) (tv cv : Value) (d : Int) (W : World), TS h fA fc bt bm B W st tv cv → OkS h st → w < 18446744073709551616 → d + (r : Int) = 41 → r ≤ 40 → B ≤ W.heap.size →
  Calls Try.prog 53 #[.pointer (some ⟨bt, 0, none⟩), .int .u64 (w : Int), .int .i64 d] W (WordPost h fA fc bt bm B r w st tv cv W)
theorem word2_enters : Enters Try.prog 53 := fun _ _ => by kernel_rfl
theorem carW_eq (h : List Nat) (r w : Nat) (st : CS) : carW h r w st = stepC h (match r with | 0 => fun _ _ => none | r + 1 => carL (carW h r)) w st := by cases r <;> rfl
set_option maxRecDepth 100000 in
set_option maxHeartbeats 8000000 in
theorem word_step (h : List Nat) (h64 : All64 h) (hlen : h.length ≤ 4000) (r : Nat) (ih : ∀ r', r = r' + 1 → WordOk h r') : WordOk h r := by
  intro fA fc bt bm B w st tv cv d W hTS hOk hw hd hr hB
  have HT := Lib.hid hTS
  have HOK := Lib.hid hOk
  have HE := Lib.hid (carW_eq h r w st)
  have HU := Lib.hid (show U64 (w : Int) from ⟨by omega, by omega⟩)
  obtain ⟨f0, t0, m0, c0, fr0, -, -, -, -, -, -, -, -, -, -, b4⟩ := hTS
  clear hOk
  have HD := Lib.hid hd
  clear hd
  obtain ⟨wi, hwi⟩ : ∃ wi : Int, (w : Int) = wi := ⟨_, rfl⟩
  have HWI := Lib.hid hwi
  cases hok : okR (w : Int) with
  | false =>
    have HOKR := Lib.hid hok
    have HRD := Lib.hid (read_no (w : Int) W HU.out hok)
    have FIN := Lib.hid (show WordPost h fA fc bt bm B r w st tv cv W (.returned (.tuple #[.int .u64 0, .int .i64 3])) W from ⟨0, 3, rfl, Fr.refl _ _ _ _, .inl ⟨by omega, by rw [HE.out]; unfold stepC; rw [HOKR.out]; simp⟩⟩)
    rw [hwi] at HRD
    rw [hwi]
    clear hok hwi
    go_enter Try.func53, Try.ntmps53
    go_wp2_with fail
    refine HRD.out.mono ?_
    rintro e w1 ⟨rfl, rfl⟩
    go_wp2_with fail
    go_ret2
    exact FIN.out
  | true =>
    have HOKR := Lib.hid hok
    have HRD := Lib.hid (read_ok (w : Int) W HU.out hok)
    by_cases htag : tagOf (w : Int) = 4
    rotate_left
    · have HTG := Lib.hid htag
      obtain ⟨tg, htg⟩ : ∃ tg, tagOf (w : Int) = tg := ⟨_, rfl⟩
      obtain ⟨nm, hnm⟩ : ∃ nm, numOf (w : Int) = nm := ⟨_, rfl⟩
      rw [htg] at htag
      rw [htg, hnm] at HRD
      have e0 : (tg != 4) = true := by simpa using htag
      have FIN := Lib.hid (show WordPost h fA fc bt bm B r w st tv cv W (.returned (.tuple #[.int .u64 (w : Int), .int .i64 0])) W from ⟨w, 0, rfl, Fr.refl _ _ _ _, .inr ⟨rfl, st, tv, cv, by rw [HE.out]; unfold stepC; rw [if_pos HOKR.out, if_neg HTG.out], HT.out, .inl rfl, .inl rfl⟩⟩)
      rw [hwi] at HRD FIN
      rw [hwi]
      clear hok hwi htag htg hnm
      go_enter Try.func53, Try.ntmps53
      go_wp2_with fail
      refine HRD.out.mono ?_
      rintro e w1 ⟨rfl, rfl⟩
      go_wp2_with fail
      go_ret2
      exact FIN.out
    have HTG := Lib.hid htag
    obtain ⟨hnum, ha60⟩ := okR_at hok htag
    obtain ⟨a, ha⟩ : ∃ a, atOf w = a := ⟨_, rfl⟩
    rw [ha] at hnum ha60
    rw [htag, hnum] at HRD
    have HAT := Lib.hid ha
    clear hnum htag ha
    have hwf : Wf (a : Int) := Wf.of (by clear hok; omega) (by clear hok; omega)
    cases hlk : look st.cp a with
    | some p =>
      have FIN := Lib.hid (show WordPost h fA fc bt bm B r w st tv cv W (.returned (.tuple #[.int .u64 ((cw p : Nat) : Int), .int .i64 0])) W from ⟨cw p, 0, rfl, Fr.refl _ _ _ _, .inr ⟨rfl, st, tv, cv, by
        rw [HE.out]; unfold stepC; rw [if_pos HOKR.out, if_pos HTG.out, HAT.out, hlk], HT.out, .inl rfl, .inl rfl⟩⟩)
      have hlook := HT.out.map.look_ok hwf
      rw [mapC_at, hlk] at hlook
      simp only [Option.map, Option.getD, Option.isSome] at hlook
      rw [hwi] at HRD
      rw [hwi]
      clear hok hwi hwf hlk
      generalize ((cw p : Nat) : Int) = cp at *
      go_enter Try.func53, Try.ntmps53
      go_wp2_with fail
      refine HRD.out.mono ?_
      rintro e w1 ⟨rfl, rfl⟩
      go_wp2_with fail
      go_ret2
      exact FIN.out
    | none =>
      have hlook := HT.out.map.look_ok hwf
      rw [mapC_at, hlk] at hlook
      simp only [Option.map, Option.getD, Option.isSome] at hlook
      have HLK := Lib.hid hlk
      have HWF := Lib.hid hwf
      rw [hwi] at HRD
      rw [hwi]
      clear hok hwi hwf hlk
      cases r with
      | zero =>
        have hd40 : decide ((40 : Int) < d) = true := by have := HD.out; simp at this ⊢; omega
        have FIN := Lib.hid (show WordPost h fA fc bt bm B 0 w st tv cv W (.returned (.tuple #[.int .u64 0, .int .i64 2])) W from ⟨0, 2, rfl, Fr.refl _ _ _ _, .inl ⟨by omega, by
          rw [HE.out]; unfold stepC; rw [if_pos HOKR.out, if_pos HTG.out, HAT.out, HLK.out]; dsimp only; split <;> rfl⟩⟩)
        go_enter Try.func53, Try.ntmps53
        go_wp2_with fail
        refine HRD.out.mono ?_
        rintro e w1 ⟨rfl, rfl⟩
        go_wp2_with fail
        go_ret2
        exact FIN.out
      | succ r =>
        have hd40 : decide ((40 : Int) < d) = false := by have := HD.out; simp at this ⊢; omega
        go_enter Try.func53, Try.ntmps53
        go_wp2_with fail
        refine HRD.out.mono ?_
        rintro e w1 ⟨rfl, rfl⟩
        go_wp2_with fail
        have hAT := At_any h fA fc (a : Int) W (Su.of_own HT.out.frm) h64 (by omega)
        refine hAT.mono ?_
        clear hAT
        rintro e w2 (⟨a', haa, hrd, pA, pc, rfl, hown, hb2⟩ | ⟨hno, x, hx, rfl, hb2, -⟩)
        rotate_left
        · have e0 : (x != 0) = true := by simpa using hx
          have FIN := Lib.hid (show ∀ o, WordPost h fA fc bt bm B (r + 1) w st tv cv W (.returned (.tuple #[.int .u64 0, .int .i64 x])) (w2.alloc o) from fun o => ⟨0, x, rfl, Fr.of_grown (row := none) (grown_alloc (grown_below hb2) o) (by simp), .inl ⟨hx, by
            rw [HE.out]; unfold stepC; rw [if_pos HOKR.out, if_pos HTG.out, HAT.out, HLK.out]; dsimp only
            rw [if_neg (fun hr => hno ⟨a, rfl, readsB_iff.1 hr⟩)]⟩⟩)
          clear hno hx hb2
          go_wp2_with fail
          go_ret2
          exact FIN.out _
        obtain rfl : a' = a := by omega
        clear haa
        have HRDS := Lib.hid hrd
        obtain ⟨kd, hkd⟩ : ∃ kd : Int, ((kdR h a' : Nat) : Int) = kd := ⟨_, rfl⟩
        obtain ⟨nm, hnm⟩ : ∃ nm, nmR h a' = nm := ⟨_, rfl⟩
        obtain ⟨tx, htx⟩ : ∃ tx, txR h a' = tx := ⟨_, rfl⟩
        obtain ⟨ps, hps⟩ : ∃ ps, paR h a' = ps := ⟨_, rfl⟩
        have HOB := Lib.hid (show obR h a' = ⟨kd, nm, tx, ps⟩ by unfold obR; rw [hkd, hnm, htx, hps])
        have HPS := Lib.hid hps
        have HPA := Lib.hid (show All64 ps by rw [← hps]; exact pa_all h64 a')
        have HPL := Lib.hid (show ps.length ≤ 400 by rw [← hps]; exact Nat.le_trans (by unfold paR; simp; omega) hrd.2.1.2.1)
        rw [hps] at hown
        rw [hkd, hnm, htx, hps]
        have HST := Lib.hid (show carW h (r + 1) w st = match carL (carW h r) ps st with
            | none => none
            | some (qs, st1) => if st1.to.length + (wordsO (withParts ⟨kd, nm, tx, ps⟩ qs)).length ≤ 4000 then some (cw st1.to.length, addC h a' qs st1) else none by
          rw [HE.out]; unfold stepC; rw [if_pos HOKR.out, if_pos HTG.out, HAT.out, HLK.out]; dsimp only
          rw [if_pos (readsB_iff.2 HRDS.out), HPS.out, HOB.out]
          rfl)
        clear hrd hkd hnm htx hps
        have hbm : bm < W.heap.size := HT.out.map.lt
        have hcb : ∀ k, cv.ownBlock = some k → B ≤ k ∧ k < W.heap.size := HT.out.cells.blk
        have HCB := Lib.hid hcb
        have HTB := Lib.hid (show ∀ k, tv.ownBlock = some k → B ≤ k ∧ k < W.heap.size from HT.out.tow.blk)
        have HFB := Lib.hid (show ∀ k, (Value.slice fA h.length fc).ownBlock = some k → B ≤ k ∧ k < W.heap.size from HT.out.frm.blk)
        obtain ⟨W2, hW2⟩ : ∃ W2, W2 = w2.alloc (.cells #[.int .i64 (a' : Int), .int .i64 kd, .int .i64 nm, .string tx, .slice pA ps.length pc] 33) := ⟨_, rfl⟩
        have hb22 : Below w2.heap.size w2 W2 := by rw [hW2]; exact (Below.refl _ _).alloc (Nat.le_refl _) _
        have hz2 : W.heap.size ≤ w2.heap.size := hb2.size
        have HZ2 := Lib.hid (show W2.heap.size = w2.heap.size + 1 by rw [hW2]; simp)
        have HBX := Lib.hid (show BX W2 w2.heap.size (a' : Int) kd nm tx (.slice pA ps.length pc) from ⟨by rw [hW2]; simp, by rw [hW2]; simp, by rw [hW2]; simp, by rw [hW2]; simp, by rw [hW2]; simp⟩)
        have HTS2 := Lib.hid ((HT.out.below hb2).below hb22)
        have HFR2 := Lib.hid (show Fr W W2 bt bm cv.ownBlock from (Fr.of_grown (row := none) (grown_below hb2) (by simp)).step (grown_below (g := none) hb22) (by simp))
        have HOW2 := Lib.hid (show OwnU W2 W.heap.size (.slice pA ps.length pc) ps from hown.below hb22)
        have HPB := Lib.hid (show ∀ k, (Value.slice pA ps.length pc).ownBlock = some k → W.heap.size ≤ k ∧ k < w2.heap.size from hown.blk)
        obtain ⟨x0, x1, x2, x3, x4⟩ := HBX.out
        have hfc0 : ∀ k, k < W2.heap.size → True := fun _ _ => trivial
        clear hown hb2 hb22 hcb hfc0
        go_wp2_with fail
        rw [← hW2]
        clear hW2
        go_loopw [10, 14, 15, 58] (fun _ _ _ i wr => ∃ (q : Nat) (qs : List Nat) (st1 : CS) (tv1 cv1 : Value), q ≤ ps.length ∧ i = .int .i64 (q : Int) ∧ carL (carW h r) (ps.take q) st = some (qs, st1) ∧ TS h fA fc bt bm B wr st1 tv1 cv1 ∧ (cv1.ownBlock = cv.ownBlock ∨ ∃ k, cv1.ownBlock = some k ∧ w2.heap.size + 1 ≤ k) ∧ (tv1.ownBlock = tv.ownBlock ∨ ∃ k, tv1.ownBlock = some k ∧ w2.heap.size + 1 ≤ k) ∧ Fr W wr bt bm cv.ownBlock ∧ BX wr w2.heap.size (a' : Int) kd nm tx (.slice pA ps.length pc) ∧ OwnU wr W.heap.size (.slice pA ps.length pc) (qs ++ ps.drop q) ∧ W2.heap.size ≤ wr.heap.size) (fun _ _ _ i _ => ps.length - (intOf i).toNat)
        case atStart => exact ⟨0, [], st, tv, cv, Nat.zero_le _, rfl, rfl, HTS2.out, .inl rfl, .inl rfl, HFR2.out, HBX.out, HOW2.out, Nat.le_refl _⟩
        case round =>
          obtain ⟨q, qs, st1, tv1, cv1, hq, rfl, hcl, hTS1, hcb1, htb1, hFr1, hBX1, hOW1, hzr⟩ := hrel
          have HCL := Lib.hid hcl
          have HTS1 := Lib.hid hTS1
          have HCB1 := Lib.hid hcb1
          have HTB1 := Lib.hid htb1
          have HFR1 := Lib.hid hFr1
          have HBX1 := Lib.hid hBX1
          have HOW1 := Lib.hid hOW1
          have HOK1 := Lib.hid (show OkS h st1 from (carL_ok (carW_ok h64 r) _ _ _ _ (HPA.out.take q) HOK.out hcl).1)
          have HQA := Lib.hid (show All64 qs from (carL_ok (carW_ok h64 r) _ _ _ _ (HPA.out.take q) HOK.out hcl).2)
          have HQL := Lib.hid (show qs.length = q by rw [carL_len hcl, List.length_take]; omega)
          have HZR := Lib.hid hzr
          clear hcl hTS1 hcb1 htb1 hFr1 hBX1 hOW1 hzr x0 x1 x2 x3 x4
          obtain ⟨x0, x1, x2, x3, x4⟩ := HBX1.out
          by_cases hlt : q < ps.length
          · obtain ⟨g, cap, hv, hgb, hgl, _⟩ := own_form HOW1.out (by rw [List.length_append, List.length_drop, HQL.out]; omega)
            injection hv with e1 e2 e3
            subst e1 e3
            clear e2
            have hnth : nth (qs ++ ps.drop q) q = nth ps q := by
              rw [nth_append_right (by rw [HQL.out]; exact Nat.le_refl _), HQL.out, Nat.sub_self, nth_drop, Nat.add_zero]
            obtain ⟨p, hp⟩ : ∃ p, nth ps q = p := ⟨_, rfl⟩
            have HPN := Lib.hid hp
            have hp64 : p < 18446744073709551616 := by rw [← hp]; exact HPA.out.nth q
            have c0 : wr.cell? ⟨g, q, none⟩ = some (.int .u64 (p : Int)) := by
              obtain ⟨b', o', hA', _, hc'⟩ := HOW1.out.rd (by rw [List.length_append, List.length_drop, HQL.out]; omega)
              injection hA' with hA'
              injection hA' with e1 e2
              subst e1 e2
              have := hc' q (by rw [List.length_append, List.length_drop, HQL.out]; omega) 0 (.int .u64 (p : Int)) (by unfold uC; rw [hnth, hp]; rfl)
              simpa using this
            have hq4 : q < 400 := by have := HPL.out; omega
            have hlq : (qs ++ ps.drop q).length = ps.length := by rw [List.length_append, List.length_drop, HQL.out]; omega
            have HLQ := Lib.hid hlq
            have z0 : wr.frozen? ⟨g, q, none⟩ = false := by
              have h := HOW1.out
              unfold OwnU at h
              rw [hlq] at h
              exact h.frozenAt _
            clear hlq
            clear hnth hp
            have hgw : W.heap.size ≤ g ∧ g < w2.heap.size := HPB.out g rfl
            have hZ := HZ2.out
            have hzr := HZR.out
            have hne : ∀ b', W.heap.size ≤ b' → b' < w2.heap.size + 1 → b' ≠ bt ∧ b' ≠ bm ∧ cv1.ownBlock ≠ some b' := fun b' h1 h2 => ⟨by omega, by omega, fun e => by
              rcases HCB1.out with e' | ⟨k, e', hk⟩
              · rw [e'] at e; have := (HCB.out b' e).2; omega
              · rw [e'] at e; injection e with e; omega⟩
            have HNE := Lib.hid hne
            have hd1 : (0 : Int) ≤ d ∧ d ≤ 40 := by have := HD.out; push_cast at this; omega
            obtain ⟨hd1, hd2⟩ := hd1
            have HIH := Lib.hid (fun Wx (hb : Below wr.heap.size wr Wx) => ih r rfl fA fc bt bm B p st1 tv1 cv1 (d + 1) Wx (HTS1.out.below hb) HOK1.out hp64 (by have := HD.out; push_cast at this; omega) (by omega) (by have := hb.size; omega))
            have j1 : (0 : Int) ≤ (q : Int) := by omega
            have j2 : (q : Int) < (ps.length : Int) := by omega
            have l1 : w2.heap.size < wr.heap.size := by omega
            have l2 : g < wr.heap.size := by omega
            clear hne hZ hzr
            have hw1 : IntKind.i64.wrap (d + 1) = d + 1 := by rw [IntKind.wrap_i64]; omega
            go_wp2_with fail
            go_region_held3 (fun W => W.cell? ⟨w2.heap.size, 4, none⟩ = some (.slice (some ⟨g, 0, none⟩) ps.length pc))
              (first | exact x4 | exact k5 | exact k6 _ | go_keep)
              ((go_at_call 53; refine (HIH.out _ (Below.refl _ _).drew).mono ?_; rintro e w5 ⟨q', x, rfl, hfr, hres⟩; have k5 := (hfr.cell (o := 4) l1 (HNE.out _ (by omega) (by omega)).1 (HNE.out _ (by omega) (by omega)).2.1 (HNE.out _ (by omega) (by omega)).2.2).trans x4; have s5 := (hfr.cell (o := q) l2 (HNE.out g (by omega) (by omega)).1 (HNE.out g (by omega) (by omega)).2.1 (HNE.out g (by omega) (by omega)).2.2).trans c0; have f5 := (hfr.frozen (o := q) l2 (HNE.out g (by omega) (by omega)).1 (HNE.out g (by omega) (by omega)).2.1 (HNE.out g (by omega) (by omega)).2.2).trans z0; have k6 : ∀ u, (w5.setCell ⟨g, q, none⟩ u).cell? ⟨w2.heap.size, 4, none⟩ = some (.slice (some ⟨g, 0, none⟩) ps.length pc) := fun u => (World.cell?_setCell_other _ _ _ _ (fun e => by injection e with e; omega)).trans k5))
            have hfr' : Fr wr w5 bt bm cv1.ownBlock := ⟨hfr.os, hfr.tape, hfr.output, hfr.size, hfr.block⟩
            have HF5 := Lib.hid (show Fr W w5 bt bm cv.ownBlock from HFR1.out.trans hfr' (by
              rcases HCB1.out with e | ⟨k, e, hk⟩
              · exact .inl e
              · exact .inr (fun j hj => by rw [e] at hj; injection hj with hj; omega)))
            have HF6 := Lib.hid (show ∀ u, Fr W (w5.setCell ⟨g, q, none⟩ u) bt bm cv.ownBlock from fun u => HF5.out.step (grown_set (grown_self w5 (some g)) u) (fun k hk => by injection hk with hk; subst hk; exact .inr (.inr (.inr hgw.1))))
            have HZ5 := Lib.hid (show wr.heap.size ≤ w5.heap.size from hfr.size)
            have hpq : ps.take (q + 1) = ps.take q ++ [p] := by
              rw [List.take_add_one, List.getElem?_eq_getElem hlt]
              have : ps[q] = p := by rw [← HPN.out]; simp [nth, hlt]
              rw [this]; rfl
            have HPQ := Lib.hid hpq
            have HBX5 := Lib.hid (show ∀ u, BX (w5.setCell ⟨g, q, none⟩ u) w2.heap.size (a' : Int) kd nm tx (.slice (some ⟨g, 0, none⟩) ps.length pc) from fun u => HBX1.out.of (fun o => (World.cell?_setCell_other _ _ _ _ (fun e => by injection e with e; omega)).trans (hfr'.cell l1 (HNE.out _ (by omega) (by omega)).1 (HNE.out _ (by omega) (by omega)).2.1 (HNE.out _ (by omega) (by omega)).2.2)))
            have HOW5 := Lib.hid (show OwnU w5 W.heap.size (.slice (some ⟨g, 0, none⟩) ps.length pc) (qs ++ ps.drop q) from ownU_fr HOW1.out hfr' (fun k hk => HNE.out k (HPB.out k hk).1 (by have := (HPB.out k hk).2; omega)))
            clear k5 s5 f5 k6 hfr hfr' hpq
            rcases hres with ⟨hx, hcn⟩ | ⟨rfl, st', tv', cv', hcs, hTS', hcb', htb'⟩
            · have e0 : (x != 0) = true := by simpa using hx
              have FIN := Lib.hid (show ∀ W', Fr W W' bt bm cv.ownBlock → WordPost h fA fc bt bm B (r + 1) w st tv cv W (.returned (.tuple #[.int .u64 0, .int .i64 x])) W' from fun W' hf => ⟨0, x, rfl, hf, .inl ⟨hx, by
                rw [HST.out]
                have h1 : carL (carW h r) (ps.take (q + 1)) st = none := by rw [HPQ.out, carL_snoc, HCL.out]; dsimp only; rw [hcn]
                have h2 := carL_none (m := ps.drop (q + 1)) h1
                rw [List.take_append_drop] at h2
                rw [h2]⟩⟩)
              clear hx hcn
              go_wp2_with fail
              go_ret2
              exact FIN.out _ (HF6.out _)
            · have HTS' := Lib.hid hTS'
              have HCB' := Lib.hid hcb'
              have HTB' := Lib.hid htb'
              have HCS := Lib.hid hcs
              clear hcs hTS' hcb' htb'
              go_wp2_with fail
              go_roundw
              case rel =>
                have hzw : w2.heap.size + 1 ≤ wr.heap.size := by have := HZ2.out; have := HZR.out; omega
                refine ⟨q + 1, qs ++ [q'], st', tv', cv', by omega, by go_num, ?_, ?_, ?_, ?_, HF6.out _, HBX5.out _, ?_, ?_⟩
                · rw [HPQ.out, carL_snoc, HCL.out]
                  dsimp only
                  rw [HCS.out]
                · refine HTS'.out.grown (grown_set (grown_self w5 (some g)) _) (fun k hk => ?_)
                  injection hk with hk
                  subst hk
                  have hn := HNE.out g (by omega) (by omega)
                  refine ⟨hn.1, hn.2.1, fun e => ?_, fun e => ?_, fun e => ?_⟩
                  · have := (HFB.out g e).2; omega
                  · rcases HTB'.out with e' | ⟨k, e', hk⟩
                    · rcases HTB1.out with e'' | ⟨k, e'', hk⟩
                      · rw [e', e''] at e; have := (HTB.out g e).2; omega
                      · rw [e', e''] at e; injection e with e; omega
                    · rw [e'] at e; injection e with e; simp only [World.drew] at hk; omega
                  · rcases HCB'.out with e' | ⟨k, e', hk⟩
                    · rw [e'] at e; exact hn.2.2 e
                    · rw [e'] at e; injection e with e; simp only [World.drew] at hk; omega
                · rcases HCB'.out with e' | ⟨k, e', hk⟩
                  · rw [e']; exact HCB1.out
                  · exact .inr ⟨k, e', by simp only [World.drew] at hk; omega⟩
                · rcases HTB'.out with e' | ⟨k, e', hk⟩
                  · rw [e']; exact HTB1.out
                  · exact .inr ⟨k, e', by simp only [World.drew] at hk; omega⟩
                · rw [← set_next qs ps q p q' HQL.out hlt]
                  exact ownU_set HOW5.out HLQ.out q'
                · have := HZ5.out; have := HZR.out; simp; omega
              case measure => simp [intOf]; omega
          · obtain rfl : q = ps.length := by omega
            obtain ⟨tA, tc, rfl, ht1, ht2, ht3⟩ := own_any HTS1.out.tow
            have hcl : carL (carW h r) ps st = some (qs, st1) := by have := HCL.out; rwa [List.take_length] at this
            have HST1 := Lib.hid (show carW h (r + 1) w st = if st1.to.length + (wordsO (withParts ⟨kd, nm, tx, ps⟩ qs)).length ≤ 4000 then some (cw st1.to.length, addC h a' qs st1) else none by rw [HST.out, hcl])
            have hokb : okOb (withParts ⟨kd, nm, tx, ps⟩ qs) = true := withParts_ok (by rw [← HOB.out]; exact HRDS.out.2.2.1) HQL.out
            have HOKB := Lib.hid hokb
            have hsu : OwnU wr W.heap.size (.slice pA qs.length pc) qs := by
              have := HOW1.out
              rw [List.drop_length, List.append_nil] at this
              rw [HQL.out]
              exact this
            have HSU := Lib.hid hsu
            obtain ⟨f1, tt1, m1, c1, fr1, -, -, -, -, -, -, -, -, -, -, b41⟩ := HTS1.out
            have hzr : w2.heap.size + 1 ≤ wr.heap.size := by have := HZ2.out; have := HZR.out; omega
            have HZW := Lib.hid hzr
            have hl1 : w2.heap.size < wr.heap.size := by omega
            obtain ⟨k, hk⟩ : ∃ k, qs.length = k := ⟨_, rfl⟩
            have HQK := Lib.hid (show ps.length = k by rw [← hk]; exact HQL.out.symm)
            rw [HQK.out] at x4
            clear hcl hokb hsu hzr
            by_cases hfit : FitsOb st1.to (withParts ⟨kd, nm, tx, ps⟩ qs)
            · have HFIT := Lib.hid hfit
              have HPO := Lib.hid (fun Wx (hb : Below wr.heap.size wr Wx) => Put_ok st1.to tA tc (withParts ⟨kd, nm, tx, ps⟩ qs) (a' : Int) pA pc Wx (Su.of_own (HTS1.out.tow.below hb)) (Su.of_own (HSU.out.below hb)) hfit)
              clear hfit
              dsimp only [withParts] at HPO
              rw [hk] at HPO
              clear hk
              have hd9 : decide ((ps.length : Int) < (ps.length : Int)) = false := by simp
              obtain ⟨L, hL⟩ : ∃ L, st1.to ++ wordsO (withParts ⟨kd, nm, tx, ps⟩ qs) = L := ⟨_, rfl⟩
              have HLL := Lib.hid hL
              dsimp only [withParts] at hL
              have hPO2 := HPO.out
              unfold PutOk at hPO2
              rw [hL] at hPO2
              have HPO2 := Lib.hid hPO2
              clear hPO2 hL
              go_wp2_with fail
              go_region_held3 (fun W => W.cell? ⟨bt, 1, none⟩ = some (.slice tA st1.to.length tc) ∧ W.cell? ⟨w2.heap.size, 0, none⟩ = some (.int .i64 (a' : Int)) ∧ W.cell? ⟨w2.heap.size, 1, none⟩ = some (.int .i64 kd) ∧ W.cell? ⟨w2.heap.size, 2, none⟩ = some (.int .i64 nm) ∧ W.cell? ⟨w2.heap.size, 3, none⟩ = some (.string tx) ∧ W.cell? ⟨w2.heap.size, 4, none⟩ = some (.slice pA k pc))
                (first | exact ⟨tt1, x0, x1, x2, x3, x4⟩ | exact ⟨k1, k2, k3, k4, k5, k6⟩ | go_keep)
                ((go_at_call 31; refine (HPO2.out _ (Below.refl _ _).drew).mono ?_; rintro e w5 ⟨A5, c5, rfl, hO5, hb5⟩; have k1 := (hb5.cell (p := ⟨bt, 1, none⟩) b41).trans tt1; have k2 := (hb5.cell (p := ⟨w2.heap.size, 0, none⟩) hl1).trans x0; have k3 := (hb5.cell (p := ⟨w2.heap.size, 1, none⟩) hl1).trans x1; have k4 := (hb5.cell (p := ⟨w2.heap.size, 2, none⟩) hl1).trans x2; have k5 := (hb5.cell (p := ⟨w2.heap.size, 3, none⟩) hl1).trans x3; have k6 := (hb5.cell (p := ⟨w2.heap.size, 4, none⟩) hl1).trans x4))
              have hb5' : Below wr.heap.size wr w5 := below_drew' hb5
              have HTS5 := Lib.hid (HTS1.out.below hb5')
              have HO5 := Lib.hid hO5
              have HB5 := Lib.hid hb5'
              have fr5 : w5.frozen? ⟨bt, 1, none⟩ = false := HTS5.out.fr 1
              have hz5 : wr.heap.size ≤ w5.heap.size := hb5'.size
              obtain ⟨cA, cc, rfl, hc1, hc2, hc3⟩ := own_any HTS5.out.cells
              obtain ⟨cn, hcn⟩ : ∃ cn, (st1.cells.map fun a : Nat => (a : Int)).length = cn := ⟨_, rfl⟩
              have HCN := Lib.hid hcn
              have hgs : w5.grownBy (w5.setCell ⟨bt, 1, none⟩ (.slice A5 L.length c5)) (some bt) := grown_set (grown_self w5 _) _
              have hbtw : bt < W.heap.size := b4
              obtain ⟨W6, hW6⟩ : ∃ W6, W6 = w5.setCell ⟨bt, 1, none⟩ (.slice A5 L.length c5) := ⟨_, rfl⟩
              have g2 : W6.cell? ⟨bt, 2, none⟩ = some (.map (some bm)) := by rw [hW6]; exact (World.cell?_setCell_other _ _ _ _ (fun e => by injection e with _ e; omega)).trans HTS5.out.m
              have HM6 := Lib.hid (show OwnMU W6 bm st1.cp.length (mapC st1.cp) by rw [hW6]; exact HTS5.out.map.kept hgs (fun e => by injection e with e; exact HT.out.b3 e.symm))
              have HG6 := Lib.hid (show w5.grownBy W6 (some bt) by rw [hW6]; exact hgs)
              have HEQ6 := Lib.hid hW6
              have hpl : st1.to.length < 4000 := by
                have h1 := HFIT.out.2
                have h2 := wordsO_pos (withParts ⟨kd, nm, tx, ps⟩ qs)
                omega
              have HPL4 := Lib.hid hpl
              obtain ⟨cwv, hcwv⟩ : ∃ cwv, cw st1.to.length = cwv := ⟨_, rfl⟩
              have HCW := Lib.hid hcwv
              have hwd := fun Wx => word_ok 4 (st1.to.length : Int) Wx (cw_word hpl).2
              rw [(cw_word hpl).1, hcwv] at hwd
              have HWD := Lib.hid hwd
              have HVAL := Lib.hid (show (Lit.int .u64 ((cwv : Nat) : Int)).wf = true by
                have h := cw_lt hpl
                rw [hcwv] at h
                have e1 : IntKind.u64.min = 0 := by decide
                have e2 : IntKind.u64.max = 18446744073709551615 := by decide
                show (decide (IntKind.u64.min ≤ ((cwv : Nat) : Int)) && decide (((cwv : Nat) : Int) ≤ IntKind.u64.max)) = true
                rw [e1, e2, Bool.and_eq_true, decide_eq_true_eq, decide_eq_true_eq]
                omega)
              have HCPL := Lib.hid (show st1.cp.length < maxLen by have h1 := HOK1.out.few; have h2 := HOK1.out.room; unfold maxLen; omega)
              have s1' : w5.cell? ⟨bt, 1, none⟩ = some (.slice tA st1.to.length tc) := k1
              have hl5 : w2.heap.size < w5.heap.size := by omega
              clear hwd hcwv hb5 hb5' hO5 hgs hcn
              go_wp2_with fail
              rw [← hW6]
              clear hW6
              refine (HWD.out _).mono ?_
              rintro e w6 ⟨rfl, rfl⟩
              have hsz6 : w5.heap.size ≤ W6.heap.size := HG6.out.size
              have hwb : w2.heap.size ≠ bt ∧ w2.heap.size ≠ bm := by omega
              have HTS7 := Lib.hid (fun w7 (hM7 : OwnMU w7 bm (st1.cp.length + 1) (fun y => if y = (a' : Int) then some ((cwv : Nat) : Int) else mapC st1.cp y)) (hg7 : W6.grownBy w7 (some bm)) => show TS h fA fc bt bm B w7 ⟨L, (a', st1.to.length) :: st1.cp, st1.cells⟩ (.slice A5 L.length c5) (.slice cA cn cc) from by
                rw [HEQ6.out] at hg7
                rw [← HCW.out] at hM7
                have h5 := HTS5.out
                rw [HCN.out] at h5
                exact ts_put h5 HO5.out (by show B ≤ wr.heap.size; omega) (by show bt < wr.heap.size; omega) (by show bm < wr.heap.size; omega) (fun k hk => by have := (HFB.out k hk).2; show k < wr.heap.size; omega) (fun k hk => by have := (HTS1.out.cells.blk k (by rw [HCN.out]; exact hk)).2; exact this) hM7 hg7)
              have HADD := Lib.hid (show addC h a' qs st1 = ⟨L, (a', st1.to.length) :: st1.cp, if kd = 5 ∧ 0 < k then st1.cells ++ [a'] else st1.cells⟩ from by
                unfold addC
                rw [HOB.out, HLL.out]
                rw [show qs.length = k from HQL.out.trans HQK.out])
              have HCAR := Lib.hid (show carW h (r + 1) w st = some (cwv, addC h a' qs st1) from by rw [HST1.out, if_pos HFIT.out.2, HCW.out])
              have HCVB := Lib.hid (show (Value.slice cA cn cc).ownBlock = cv.ownBlock ∨ ∃ k, (Value.slice cA cn cc).ownBlock = some k ∧ W.heap.size ≤ k from by
                have hh := HCB1.out
                rw [HCN.out] at hh
                rcases hh with e | ⟨k, e, hk⟩
                · exact .inl e
                · exact .inr ⟨k, e, by omega⟩)
              have HTVB := Lib.hid (show (Value.slice A5 L.length c5).ownBlock = tv.ownBlock ∨ ∃ k, (Value.slice A5 L.length c5).ownBlock = some k ∧ W.heap.size ≤ k from by
                have hL0 : 0 < L.length := by
                  rw [← HLL.out, List.length_append]
                  have := wordsO_pos (withParts ⟨kd, nm, tx, ps⟩ qs)
                  omega
                obtain ⟨g5, cap5, hv5, hgb5, _⟩ := own_form HO5.out hL0
                rw [hv5]
                refine .inr ⟨g5, rfl, ?_⟩
                have : wr.heap.size ≤ g5 := hgb5
                omega)
              have HF7 := Lib.hid (fun w7 (hg7 : W6.grownBy w7 (some bm)) => ((HFR1.out.step (grown_below (g := none) HB5.out) (by simp)).step HG6.out (fun k hk => by injection hk with hk; exact .inl hk.symm)).step hg7 (fun k hk => by injection hk with hk; exact .inr (.inl hk.symm)))
              have v1 : W6.cell? ⟨w2.heap.size, 1, none⟩ = some (.int .i64 kd) := (grown_cell HG6.out hl5 (fun e => hwb.1 (by injection e))).trans k3
              have v4 : W6.cell? ⟨w2.heap.size, 4, none⟩ = some (.slice pA k pc) := (grown_cell HG6.out hl5 (fun e => hwb.1 (by injection e))).trans k6
              have hsw : w2.heap.size < W6.heap.size := by omega
              have HNB := Lib.hid hwb.2
              have FINN := Lib.hid (show ¬ (kd = 5 ∧ 0 < k) → ∀ w7, W6.grownBy w7 (some bm) → TS h fA fc bt bm B w7 ⟨L, (a', st1.to.length) :: st1.cp, st1.cells⟩ (.slice A5 L.length c5) (.slice cA cn cc) → WordPost h fA fc bt bm B (r + 1) w st tv cv W (.returned (.tuple #[.int .u64 ((cwv : Nat) : Int), .int .i64 0])) w7 from fun hno w7 hg7 ht7 =>
                ⟨cwv, 0, rfl, HF7.out w7 hg7, .inr ⟨rfl, _, _, _, by rw [HCAR.out, HADD.out, if_neg hno], ht7, HCVB.out, HTVB.out⟩⟩)
              clear hwb k1 k2 k3 k4 k5 k6 fr5 s1'
              by_cases hk5 : kd = 5
              rotate_left
              · have b5 : (kd == 5) = false := by simpa using hk5
                have HNO := Lib.hid (show ¬ (kd = 5 ∧ 0 < k) from fun e => hk5 e.1)
                clear hk5
                go_wp2_with (at_mapUpdate; go_loud (refine wpList_store_U rfl _ _ _ rfl bm st1.cp.length (mapC st1.cp) rfl HM6.out HCPL.out (a' : Int) ((cwv : Nat) : Int) rfl rfl HWF.out HVAL.out ?_; intro w7 hM7 hg7; have HT7 := Lib.hid (HTS7.out w7 hM7 hg7); have HG7 := Lib.hid hg7; have u1 := (grown_cell (o := 1) hg7 hsw (fun e => HNB.out (by injection e))).trans v1; have u4 := (grown_cell (o := 4) hg7 hsw (fun e => HNB.out (by injection e))).trans v4; have u3 := HT7.out.c; have uf := HT7.out.fr; have u7 : bt < w7.heap.size := HT7.out.b4; clear hM7 hg7))
                go_ret2
                exact FINN.out HNO.out _ HG7.out HT7.out
              by_cases hk0 : 0 < k
              rotate_left
              · have b5 : (kd == 5) = true := by simpa using hk5
                have HNO := Lib.hid (show ¬ (kd = 5 ∧ 0 < k) from fun e => hk0 e.2)
                obtain rfl : k = 0 := by omega
                clear hk5 hk0
                go_wp2_with (at_mapUpdate; go_loud (refine wpList_store_U rfl _ _ _ rfl bm st1.cp.length (mapC st1.cp) rfl HM6.out HCPL.out (a' : Int) ((cwv : Nat) : Int) rfl rfl HWF.out HVAL.out ?_; intro w7 hM7 hg7; have HT7 := Lib.hid (HTS7.out w7 hM7 hg7); have HG7 := Lib.hid hg7; have u1 := (grown_cell (o := 1) hg7 hsw (fun e => HNB.out (by injection e))).trans v1; have u4 := (grown_cell (o := 4) hg7 hsw (fun e => HNB.out (by injection e))).trans v4; have u3 := HT7.out.c; have uf := HT7.out.fr; have u7 : bt < w7.heap.size := HT7.out.b4; clear hM7 hg7))
                go_ret2
                exact FINN.out HNO.out _ HG7.out HT7.out
              have b5 : (kd == 5) = true := by simpa using hk5
              have b6 : decide ((0 : Int) < (k : Int)) = true := by simp; omega
              have HYES := Lib.hid (show kd = 5 ∧ 0 < k from ⟨hk5, hk0⟩)
              have hk01 : (0 : Int) < (k : Int) := by omega
              clear hk5
              have HCLEN := Lib.hid (show (st1.cells.map fun a : Nat => (a : Int)).length ≤ 1000000 from by
                rw [List.length_map]
                have h1 := HOK1.out.fewer
                have h2 := HOK1.out.few
                have h3 := HOK1.out.room
                omega)
              have HBW := Lib.hid (fun w7 (hg7 : W6.grownBy w7 (some bm)) => show B ≤ w7.heap.size from by have := hg7.size; omega)
              have FINY := Lib.hid (show ∀ w7 w8 v8, W6.grownBy w7 (some bm) → TS h fA fc bt bm B w7 ⟨L, (a', st1.to.length) :: st1.cp, st1.cells⟩ (.slice A5 L.length c5) (.slice cA cn cc) → OwnI w8 B v8 ((st1.cells.map fun a : Nat => (a : Int)) ++ [(a' : Int)]) → w7.grownBy w8 (Value.slice cA cn cc).ownBlock → (v8.ownBlock = (Value.slice cA cn cc).ownBlock ∨ v8.ownBlock = some (w7.heap.size + 1)) →
                  WordPost h fA fc bt bm B (r + 1) w st tv cv W (.returned (.tuple #[.int .u64 ((cwv : Nat) : Int), .int .i64 0])) (w8.setCell ⟨bt, 3, none⟩ v8) from fun w7 w8 v8 hg7 ht7 hO8 hg8 hat8 => by
                have h7 := hg7.size
                refine ⟨cwv, 0, rfl, ((HF7.out w7 hg7).step hg8 (fun k hk => ?_)).step (grown_set (g := bt) (grown_self w8 _) _) (fun k hk => by injection hk with hk; exact .inl hk.symm), .inr ⟨rfl, _, _, _, by rw [HCAR.out, HADD.out, if_pos HYES.out], ts_cell ht7 hO8 hg8 (by rcases hat8 with e | e; exact .inl e; exact .inr ⟨_, e, by omega⟩), ?_, HTVB.out⟩⟩
                · rcases HCVB.out with e | ⟨j, e, hj⟩
                  · exact .inr (.inr (.inl (e ▸ hk)))
                  · rw [e] at hk; injection hk with hk; exact .inr (.inr (.inr (by omega)))
                · rcases hat8 with e | e
                  · rw [e]; exact HCVB.out
                  · exact .inr ⟨_, e, by omega⟩)
              go_wp2_with (first | (at_mapUpdate; go_loud (refine wpList_store_U rfl _ _ _ rfl bm st1.cp.length (mapC st1.cp) rfl HM6.out HCPL.out (a' : Int) ((cwv : Nat) : Int) rfl rfl HWF.out HVAL.out ?_; intro w7 hM7 hg7; have HT7 := Lib.hid (HTS7.out w7 hM7 hg7); have HG7 := Lib.hid hg7; have u1 := (grown_cell (o := 1) hg7 hsw (fun e => HNB.out (by injection e))).trans v1; have u4 := (grown_cell (o := 4) hg7 hsw (fun e => HNB.out (by injection e))).trans v4; have u3 := HT7.out.c; have uf := HT7.out.fr; have u7 : bt < w7.heap.size := HT7.out.b4; clear hM7 hg7)) | (at_builtin; go_loud (refine wpList_append_int rfl _ _ rfl B (.slice cA cn cc) (st1.cells.map fun a : Nat => (a : Int)) rfl HT7.out.cells w7.heap.size rfl (a' : Int) rfl HCLEN.out (HBW.out w7 HG7.out) ?_; intro v8 w8 hO8 hg8 hat8; obtain ⟨c8A, c8c, hv8, -, -, -⟩ := own_any hO8; generalize (st1.cells.map (fun a : Nat => (a : Int)) ++ [(a' : Int)]).length = n8 at hv8; subst hv8; have s3 := (grown_cell (o := 3) hg8 u7 (fun e => (HT7.out.cb bt e.symm).1 rfl)).trans u3; have sf : ∀ o, w8.frozen? ⟨bt, o, none⟩ = false := fun o => (grown_frozen (o := o) hg8 u7 (fun e => (HT7.out.cb bt e.symm).1 rfl)).trans (uf o); have HFIN := Lib.hid (FINY.out w7 w8 _ HG7.out HT7.out hO8 hg8 hat8); clear hO8 hg8 hat8)))
              go_ret2
              exact HFIN.out
            · have hbig : ¬ st1.to.length + (wordsO (withParts ⟨kd, nm, tx, ps⟩ qs)).length ≤ 4000 := fun e => hfit ⟨HOKB.out, e⟩
              have HPO := Lib.hid (fun Wx (hb : Below wr.heap.size wr Wx) => Put_bad st1.to tA tc (withParts ⟨kd, nm, tx, ps⟩ qs) (a' : Int) pA pc Wx (by have := HOK1.out.room; omega) (Su.of_own (HTS1.out.tow.below hb)) (Su.of_own (HSU.out.below hb)) hfit)
              have HNO := Lib.hid (show carW h (r + 1) w st = none from by rw [HST1.out, if_neg hbig])
              clear hfit hbig
              dsimp only [withParts] at HPO
              rw [hk] at HPO
              clear hk
              have hd9 : decide ((ps.length : Int) < (ps.length : Int)) = false := by simp
              go_wp2_with fail
              go_region_held3 (fun W => W.cell? ⟨bt, 1, none⟩ = some (.slice tA st1.to.length tc) ∧ W.cell? ⟨w2.heap.size, 0, none⟩ = some (.int .i64 (a' : Int)) ∧ W.cell? ⟨w2.heap.size, 1, none⟩ = some (.int .i64 kd) ∧ W.cell? ⟨w2.heap.size, 2, none⟩ = some (.int .i64 nm) ∧ W.cell? ⟨w2.heap.size, 3, none⟩ = some (.string tx) ∧ W.cell? ⟨w2.heap.size, 4, none⟩ = some (.slice pA k pc))
                (first | exact ⟨tt1, x0, x1, x2, x3, x4⟩ | exact ⟨k1, k2, k3, k4, k5, k6⟩ | go_keep)
                ((go_at_call 31; refine (HPO.out _ (Below.refl _ _).drew).mono ?_; rintro e w5 ⟨x, hx, rfl, hb5⟩; have k1 := (hb5.cell (p := ⟨bt, 1, none⟩) b41).trans tt1; have k2 := (hb5.cell (p := ⟨w2.heap.size, 0, none⟩) hl1).trans x0; have k3 := (hb5.cell (p := ⟨w2.heap.size, 1, none⟩) hl1).trans x1; have k4 := (hb5.cell (p := ⟨w2.heap.size, 2, none⟩) hl1).trans x2; have k5 := (hb5.cell (p := ⟨w2.heap.size, 3, none⟩) hl1).trans x3; have k6 := (hb5.cell (p := ⟨w2.heap.size, 4, none⟩) hl1).trans x4))
              have e0 : (x != 0) = true := by simpa using hx
              have FINB := Lib.hid (show WordPost h fA fc bt bm B (r + 1) w st tv cv W (.returned (.tuple #[.int .u64 0, .int .i64 x])) w5 from ⟨0, x, rfl, HFR1.out.step (grown_below (g := none) (below_drew' hb5)) (by simp), .inl ⟨hx, HNO.out⟩⟩)
              clear hb5 hx k1 k2 k3 k4 k5 k6
              go_wp2_with fail
              go_ret2
              exact FINB.out
theorem word_any (h : List Nat) (h64 : All64 h) (hlen : h.length ≤ 4000) : ∀ r, WordOk h r := by
  intro r
  induction r with
  | zero => exact word_step h h64 hlen 0 (fun r' e => by omega)
  | succ r ih => exact word_step h h64 hlen (r + 1) (fun r' e => by obtain rfl : r' = r := by omega
                                                                    exact ih)
end Go.Proofs.Ytkdbnkkdohkhjaa
