/- A quiet cluster: Refs. Who can never be reached again: check. -/
import Derived.Test.YthgbcgphkddmgaaGreatZBD
import Derived.Test.YthgbcgphkddmgaaGreatZBF
namespace Go.Proofs.YthgbcgphkddmgaaGreat
open Go.RowKit Go.Maps
set_option linter.unusedVariables false
set_option linter.unusedSimpArgs false
section
variable {w w' : World} {X X' Mc Mc' : Nat → Prop} {base T : Nat} {bl : CBk → Nat} {pn : Nat → Nat} {vl : Value} {ll : Nat} {M : Nat → Nat → Prop} {Pn : Nat → Int → Nat} {C : CqS}
def refsTo (C : CqS) (k : Nat) : List Int := catTo (fun i => refsN (C.nd i)) k
theorem refsTo_len (h : ∀ i, i < C.n → (C.nd i).acts.length ≤ 60) : ∀ k, k ≤ C.n → (refsTo C k).length ≤ 60 * k := by
  intro k
  induction k with
  | zero => intro _; exact Nat.le_refl _
  | succ k ih =>
    intro hk
    have h1 := ih (by omega)
    have h2 := h k (by omega)
    show (catTo _ k ++ refsN (C.nd k)).length ≤ _
    rw [List.length_append]
    have h3 : (catTo (fun i => refsN (C.nd i)) k).length ≤ 60 * k := h1
    have h4 : (refsN (C.nd k)).length = (C.nd k).acts.length := by simp [refsN]
    omega
set_option maxRecDepth 100000 in
set_option maxHeartbeats 4000000 in
theorem crefs_any (h : CqG w X Mc base T bl pn vl ll M Pn C) : Calls Tryz.prog 8 #[.pointer (some ⟨bl .P, 0, none⟩)] w (CatPost (refsTo C C.n) w) := by
  obtain ⟨i0, hi, hz0, hz1, hz2⟩ := info_parts infoI
  have h8 := h.n8
  obtain ⟨ca, c0⟩ := h.cp.c0
  have HH := Lib.hid h
  have HLN := Lib.hid (refsTo_len (C := C) (fun i hi => (h.nd i hi).ok.len))
  clear h
  go_enter Tryz.func8, Tryz.ntmps8
  go_wp2_with fail
  go_loopw [3, 5, 11] (fun o _ x wr => ∃ (i : Nat) (v : Value), i ≤ C.n ∧ x = .int .i64 i ∧ v = o ∧ OwnI wr w.heap.size v (refsTo C i) ∧ Below w.heap.size w wr) (fun _ _ x _ => C.n - (intOf x).toNat)
  case atStart => exact ⟨0, _, Nat.zero_le _, rfl, rfl, World.ownsRow_nil _ _ _ _, Below.refl _ _⟩
  case round =>
    obtain ⟨i, v, hin, rfl, rfl, hO, hB⟩ := hrel
    have HO := Lib.hid hO
    have HB := Lib.hid hB
    have hBs := hB.size
    obtain ⟨Ao, co, rfl, hnco, hcmo, _⟩ := own_any hO
    by_cases hlt : i < C.n
    · have hf := Fr.of_below (S := fun _ => False) hB
      have hra := hf.cell (HH.out.co.ra i hlt) (fun h => h)
      have HRF := Lib.hid (refs_any ((HH.out.new hf).nd i hlt))
      have hl1 := HLN.out (i + 1) (by omega)
      have hl2 : (refsTo C (i + 1)).length = (refsTo C i).length + (C.nd i).acts.length := by
        show (catTo _ i ++ refsN (C.nd i)).length = _
        rw [List.length_append]
        simp [refsN, refsTo]
      have HL := Lib.hid (And.intro hl1 hl2)
      clear hO hB hf hl1 hl2
      go_wp2_with fail
      refine HRF.out.mono ?_
      rintro e w3 ⟨A3, c3, rfl, ho3, hb3⟩
      have HO3 := Lib.hid ho3
      have HB3 := Lib.hid hb3
      have HOK := Lib.hid (HO.out.below hb3)
      obtain ⟨l1, l2⟩ := HL.out
      have hlr : (refsN (C.nd i)).length = (C.nd i).acts.length := by simp [refsN]
      have HLR := Lib.hid hlr
      have hcs : refsTo C (i + 1) = refsTo C i ++ refsN (C.nd i) := rfl
      have HCS := Lib.hid hcs
      have hsz3 : w.heap.size ≤ w3.heap.size := Nat.le_trans hBs hb3.size
      clear ho3 hb3 HRF hcs hlr
      cases A3 with
      | none =>
        have hz : (C.nd i).acts.length = 0 := by
          rcases HO3.out.2 with ⟨e, _⟩ | ⟨g, cap, cur, e, _⟩
          · injection e
          · cases e
        have HAN := Lib.hid (append_none w3 31 w.heap.size _ _ _ HOK.out c3)
        have hz' : (C.nd i).acts.length = 0 := hz
        have HZ := Lib.hid hz
        rw [hz']
        go_wp2_with (at_builtin; refine Lib.wpList_append_run _ rfl _ _ _ _ rfl _ _ rfl rfl _ _ HAN.out ?_)
        refine ⟨⟨i + 1, _, by omega, by go_num, rfl, ?_, HB.out.trans (HB3.out.mono hBs)⟩, by simp [intOf]; omega⟩
        rw [HCS.out, List.eq_nil_of_length_eq_zero (HLR.out.trans HZ.out), List.append_nil]
        exact HOK.out
      | some qa =>
        have HQ2 := Lib.hid (show ∀ j u, (encI (refsN (C.nd i)))[j]? = some u → w3.cell? (qa.add j) = some u from fun j u hu => by
          have hj : j < (refsN (C.nd i)).length := by
            rcases Nat.lt_or_ge j (refsN (C.nd i)).length with hh | hh
            · exact hh
            · rw [List.getElem?_eq_none (by simp [encI]; exact hh)] at hu; cases hu
          obtain ⟨g, cap, hv, _, _, _⟩ := own_form HO3.out (by have := HLR.out; omega)
          injection hv with hA _ _
          injection hA with hA
          subst hA
          rw [Go.WideShapes.add_plain]
          have ho := HO3.out
          unfold OwnI at ho
          rw [HLR.out] at ho
          have := World.ownsRow.cellAt ho j (by have := HLR.out; omega)
          rw [Nat.zero_add, this]
          exact hu)
        go_wp2_with (at_builtin; go_loud (refine wpList_append_own_at _ rfl _ _ 31 rfl w.heap.size 3 i0 _ 1 8 Tryz.underlying31 hi hz0 hz1 hz2 rfl (by omega) (.slice Ao (refsTo C i).length co) (refsTo C i).length (encI (refsTo C i)) rfl HOK.out qa (C.nd i).acts.length c3 (encI (refsN (C.nd i))) rfl (by simp [encI, refsN]) HQ2.out (encI_one _) (by unfold maxLen; omega) (by omega) hsz3 ?_; intro v2 w2 hown2 hgrow2 _ _; have HO2 := Lib.hid hown2; have HG2 := Lib.hid hgrow2; clear hown2 hgrow2))
        refine ⟨⟨i + 1, v2, by omega, by go_num, rfl, ?_, ?_⟩, by simp [intOf]; omega⟩
        · unfold OwnI
          rw [HCS.out, List.length_append, encI_append, HLR.out]
          exact HO2.out
        · exact below_grown (HB.out.trans (HB3.out.mono hBs)) hsz3 HG2.out (fun k hk => (HOK.out.blk k hk).1)
    · obtain rfl : C.n = i := by omega
      clear hO hB
      go_wp2_with fail
      go_ret
      exact ⟨_, rfl, HO.out, HB.out⟩
end
end Go.Proofs.YthgbcgphkddmgaaGreat
namespace Go.Proofs.YthgbcgphkddmgaaGreat
open Go.RowKit Go.Maps
set_option linter.unusedVariables false
set_option linter.unusedSimpArgs false
structure KqS where
  ref : Int
  awake : Bool
  root : Bool
  refs : List Int
def zKq : KqS := ⟨0, false, false, []⟩
def kqN (K : List KqS) (i : Nat) : KqS := K.getD i zKq
theorem kqN_at {K : List KqS} {i : Nat} (h : i < K.length) : K[i]? = some (kqN K i) := by
  unfold kqN
  rw [List.getD_eq_getElem?_getD, List.getElem?_eq_getElem h]
  rfl
theorem kqN_mem {K : List KqS} {i : Nat} (h : i < K.length) : kqN K i ∈ K := List.mem_of_getElem? (kqN_at h)
def kqC (K : List KqS) (V : Nat → Value) (i : Nat) : List Value := [.int .i64 (kqN K i).ref, .bool (kqN K i).awake, .bool (kqN K i).root, V i]
/-- records that lie in a slice -/
def KqIn (w : World) (A : Option Addr) (K : List KqS) : Prop :=
  0 < K.length → ∃ b off V, A = some ⟨b, off, none⟩ ∧ b < w.heap.size ∧ ∀ i, i < K.length → (∀ j u, (kqC K V i)[j]? = some u → w.cell? ⟨b, off + i * 4 + j, none⟩ = some u) ∧ NumIn w (fun k => k < w.heap.size) (V i) (kqN K i).refs
theorem KqIn.fr {w w' : World} {A : Option Addr} {K : List KqS} (h : KqIn w A K) (hf : Fr (fun _ => False) w w') : KqIn w' A K := fun h0 => by
  obtain ⟨b, off, V, e, hb, hc⟩ := h h0
  exact ⟨b, off, V, e, Nat.lt_of_lt_of_le hb hf.size, fun i hi => ⟨fun j u hu => hf.cell ((hc i hi).1 j u hu) (fun h => h), (hc i hi).2.fr hf (fun _ _ h => h) (fun k hk => Nat.lt_of_lt_of_le hk hf.size)⟩⟩
/-- the references of the first records -/
def refsK (K : List KqS) (q : Nat) : List Int := (K.take q).map (·.ref)
theorem refsK_succ {K : List KqS} {q : Nat} (h : q < K.length) : refsK K (q + 1) = refsK K q ++ [(kqN K q).ref] := by
  unfold refsK
  rw [List.take_add_one, kqN_at h, List.map_append]
  rfl
structure KqOk (K : List KqS) : Prop where
  len : K.length ≤ 480
  nod : (K.map (·.ref)).Nodup
  wf : ∀ k, k ∈ K → Wf k.ref ∧ ∀ x, x ∈ k.refs → Wf x
  own : ∀ k, k ∈ K → ∀ x, x ∈ k.refs → x ∈ K.map (·.ref)
  long : ∀ k, k ∈ K → k.refs.length ≤ 1000000
theorem KqOk.fresh {K : List KqS} (h : KqOk K) {q : Nat} (hq : q < K.length) : (kqN K q).ref ∉ refsK K q := fun hm => by
  have h1 := h.nod
  have e : K.map (·.ref) = refsK K (q + 1) ++ (K.drop (q + 1)).map (·.ref) := by
    unfold refsK
    rw [← List.map_append, List.take_append_drop]
  rw [e, refsK_succ hq] at h1
  have h2 := (List.nodup_append.1 h1).1
  have h3 := (List.nodup_append.1 h2).2.2
  exact h3 _ hm _ (by simp) rfl
theorem mkMib : ∀ w, (Instr.makeMap 84 none).run Tryz.prog w = .ok (.map (some w.heap.size)) (w.alloc (.map #[] 0)) := fun w => by kernel_rfl
theorem zero_bool : ∀ w, (zeroValue 4).run Tryz.prog w = .ok (.bool false) w := fun w => by kernel_rfl
theorem look_mib {w : World} {b n : Nat} {p : Int → Bool} (h : OwnM w b n (knG p)) {x : Int} (hx : Wf x) : (Instr.lookup 84 (.map (some b)) (.int .i64 x) false).run Tryz.prog w = .ok (.bool (p x)) w := by
  have := OwnM.look und_mib zero_bool h hx
  rw [this]
  unfold knG
  cases p x <;> rfl
set_option maxRecDepth 100000 in
set_option maxHeartbeats 4000000 in
theorem cyc_check (w : World) (A : Option Addr) (c : Nat) (K : List KqS) (ok : KqOk K) (h : KqIn w A K) : Calls Tryz.prog 131 #[.slice A K.length c] w fun e w' => e = .returned (.int .i64 0) ∧ Below w.heap.size w w' := by
  have HK := Lib.hid h
  have HOK := Lib.hid ok
  have h480 := ok.len
  have hmk := mkMib
  have e1 : decide ((480 : Int) < (K.length : Int)) = false := decide_eq_false (by omega)
  have HM := Lib.hid (show OwnM (w.alloc (.map #[] 0)) w.heap.size 0 (knG fun x => decide (x ∈ refsK K 0)) from (OwnM.made w).congr (fun x _ => by unfold knG refsK; simp))
  clear h ok
  go_enter Tryz.func131, Tryz.ntmps131
  go_wp2_with fail
  go_loopw [5, 12] (fun _ v wr => ∃ q m : Nat, q ≤ K.length ∧ m ≤ q ∧ v = .int .i64 (q : Int) ∧ Hid (Below w.heap.size w wr) ∧ Hid (OwnM wr w.heap.size m (knG fun x => decide (x ∈ refsK K q)))) (fun _ v _ => K.length - (intOf v).toNat)
  case atStart => exact ⟨0, 0, Nat.zero_le _, Nat.le_refl _, rfl, Lib.hid ((Below.refl _ _).alloc (Nat.le_refl _) _), HM⟩
  case round =>
    obtain ⟨q, m, hq, hm, rfl, HB, HO⟩ := hrel
    by_cases hlt : q < K.length
    · obtain ⟨b, off, V, rfl, hb, hc⟩ := (HK.out.fr (Fr.of_below HB.out)) (by omega)
      have hcq := (hc q hlt).1
      have x0 : wr.cell? ⟨b, off + q * 4, none⟩ = some (.int .i64 (kqN K q).ref) := hcq 0 _ rfl
      have x1 := hcq 1 _ rfl
      have x2 := hcq 2 _ rfl
      have x3 := hcq 3 _ rfl
      have hwf := (HOK.out.wf _ (kqN_mem hlt)).1
      have hfr := HOK.out.fresh hlt
      obtain ⟨W2, hW2⟩ : ∃ W2, W2 = wr.alloc (.cells #[.int .i64 (kqN K q).ref, .bool (kqN K q).awake, .bool (kqN K q).root, V q] 119) := ⟨_, rfl⟩
      have hf2 : Fr (fun _ => False) wr W2 := by rw [hW2]; exact (Fr.refl _ _).alloc _
      have ho2 := HO.out.fr hf2 (fun h => h)
      have hl := look_mib ho2 hwf
      rw [decide_eq_false hfr] at hl
      have d0 : W2.cell? ⟨wr.heap.size, 0, none⟩ = some (.int .i64 (kqN K q).ref) := by rw [hW2]; simp [go_sem]
      obtain ⟨w3, hrun, ho3, hg3⟩ := OwnM.store und_mib ho2 (by unfold maxLen; omega) (kqN K q).ref (.bool true) hwf
      rw [knG_put] at ho3
      have HO3 := Lib.hid ho3
      have hsz := HB.out.size
      have HB3 := Lib.hid (show Below w.heap.size w w3 from (((show Below w.heap.size w W2 by rw [hW2]; exact HB.out.alloc hsz _)).grown hg3 (Nat.le_trans hsz hf2.size) (fun g e => by injection e with e; omega)))
      have HW2 := Lib.hid hW2
      have HM3 := Lib.hid (show (if (knG (fun x => decide (x ∈ refsK K q)) (kqN K q).ref).isSome = true then m else m + 1) ≤ q + 1 by split <;> omega)
      have HN := Lib.hid hlt
      have i1 : (0 : Int) ≤ (q : Int) := by omega
      have i2 : (q : Int) < (K.length : Int) := by omega
      obtain ⟨Aq, nq, cq, hVq⟩ : ∃ Aq nq cq, V q = .slice Aq nq cq := by
        obtain ⟨A, c, e, _⟩ := (hc q hlt).2
        exact ⟨A, _, c, e⟩
      rw [hVq] at x3 HW2
      clear hc hcq hf2 ho2 ho3 hg3 hW2 hfr HO hlt
      rw [HW2.out] at hl hrun d0
      go_wp2_with fail
      exact ⟨⟨q + 1, _, by omega, HM3.out, by go_num, HB3, Lib.hid (HO3.out.congr (fun x _ => by
        unfold knG
        rw [refsK_succ HN.out]
        simp))⟩, by simp [intOf]; omega⟩
    · have hd : decide ((q : Int) < (K.length : Int)) = false := decide_eq_false (by omega)
      go_wp2_with fail
      go_ret
      exact ⟨rfl, HB.out⟩
end Go.Proofs.YthgbcgphkddmgaaGreat
