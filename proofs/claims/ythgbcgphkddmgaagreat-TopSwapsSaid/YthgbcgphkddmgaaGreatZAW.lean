/- An actor with a state is spawned. What a node tells: Said, Out, Spawned; Home. Nodes: New, Drop, Box. How a quiet cluster lies in memory. A quiet cluster: there, at, an end's Out, fill. -/
import Derived.Test.YthgbcgphkddmgaaGreatZAV
import Derived.Test.YthgbcgphkddmgaaGreatZAS
import Derived.Test.YthgbcgphkddmgaaGreatZAP
import Derived.Test.YthgbcgphkddmgaaGreatZAR
import Derived.Deep.QuietTactic
import Derived.Test.YthgbcgphkddmgaaGreatZAT
import Derived.Test.YthgbcgphkddmgaaGreatZAC
import Derived.Test.YthgbcgphkddmgaaGreatZAJ
namespace Go.Proofs.YthgbcgphkddmgaaGreat
open Go.RowKit Go.Maps
set_option linter.unusedVariables false
set_option linter.unusedSimpArgs false
theorem spawnN_ok {N : NdS} {nm : ByteArray} {st : List (Int × Int)} {r : RunS} (h1 : makeN nm st = some r) (h2 : N.has (N.id * 1000 + N.spawned + 1) = false) (h3 : N.acts.length < 60) (h4 : N.spawned < 999) :
    spawnN N nm st = ({ N with acts := insA ⟨N.id * 1000 + N.spawned + 1, newD nm r, [], 0, false, 0, stKn st⟩ N.acts, rows := addR N.rows (N.id * 1000 + N.spawned + 1), spawned := N.spawned + 1 }, N.id * 1000 + N.spawned + 1, 0) := by
  unfold spawnN
  dsimp only
  rw [h1]
  dsimp only
  rw [if_neg (by rw [h2]; decide), if_neg (by omega)]
/-- what Spawn makes of a node: whoever was there stays where it was -/
def SpawnPost (X M : Nat → Prop) (base T p : Nat) (P : Int → Nat) (N N' : NdS) (w : World) (v : Value) (e : Ending) (w' : World) : Prop :=
  ∃ P', (∀ x, N.has x = true → P' x = P x) ∧ NdPost X M base T p P' N' w v e w'
set_option maxRecDepth 100000 in
theorem NodeAt.mlen {w : World} {X M : Nat → Prop} {base T p : Nat} {P : Int → Nat} {N : NdS} (h : NodeAt w X M base T p P N) {mb : Nat} (hc : w.cell? ⟨p, 3, none⟩ = some (.map (some mb))) : ∀ ty W, Fr (fun _ => False) w W → (Builtin.len_ #[129] ty #[.map (some mb)]).run Tryz.prog W = .ok (.int .i64 (N.acts.length : Int)) W := by
  obtain ⟨_, _, _, mb', _, _, _, _, h4, _⟩ := h
  have := h4.c3
  rw [hc] at this
  injection this with this
  injection this with this
  injection this with this
  subst this
  exact fun ty W hf => (h4.am.fr hf (fun h => h)).len und_actors ty
theorem NodeAt.set6 {w : World} {X M : Nat → Prop} {base T p : Nat} {P : Int → Nat} {N : NdS} (h : NodeAt w X M base T p P N) {k' : Nat} (hk : k' ≤ 999) {i : Int} (hi : i = (k' : Int)) : NodeAt (w.setCell ⟨p, 6, none⟩ (.int .i64 i)) X M base T p P { N with spawned := k' } := by
  obtain ⟨h1, h2, h3, mb, hb, MA, ob, sb, h4, h5⟩ := h
  exact ⟨{ h1 with spawned := hk }, fun k hk => by simpa using h2 k hk, h3, mb, hb, MA, ob, sb, h4.set6 (h3 p h5.p) hi, h5.p, h5.mb, h5.hb, h5.ob, h5.sb, h5.act⟩
theorem mkRefs2 : ∀ w, (Instr.makeMap 144 none).run Tryz.prog w = .ok (.map (some w.heap.size)) (w.alloc (.map #[] 0)) := fun w => by kernel_rfl
/-- where the loop stands: q values of the state were read -/
structure SpR (w0 W0 : World) (kb : Nat) (st : List (Int × Int)) (q : Nat) (wr : World) : Prop where
  fr : Fr (fun k => k = kb) W0 wr
  kn : ∃ n, n ≤ q ∧ OwnM wr kb n (knG fun x => anyOf (fun i => refsV (vLeaf (stN st i).1 (stN st i).2) x) q)
theorem st_wf {r : RunS} (h : RunOk r) (i : Nat) : (vLeaf (stN r.st i).1 (stN r.st i).2).wf := by
  have key : Wf (stN r.st i).2 := h.wf i
  have := key.low
  exact ⟨⟨by show -9223372036854775808 ≤ (stN r.st i).2; omega, by show (stN r.st i).2 < 9223372036854775808; omega⟩, fun i hi => by omega⟩
theorem many_leaf (k m : Int) : (vLeaf k m).many = 1 := by simp [vLeaf, VT.many, sumTo]
set_option maxRecDepth 100000 in
set_option maxHeartbeats 8000000 in
theorem spawn_any {w : World} {X M : Nat → Prop} {base T p : Nat} {P : Int → Nat} {N : NdS} (nm : ByteArray) (st : List (Int × Int)) (r : RunS) (S : Nat → Prop) (As : Option Addr) (cs : Nat) (h : NodeAt w X M base T p P N) (hmk : makeN nm st = some r) (hro : RunOk r) (hst : StAt w S As cs st) (hhas : N.has (N.id * 1000 + N.spawned + 1) = false) (hfull : N.acts.length < 60) (hsp9 : N.spawned < 999) (hT : pot N + 201 ≤ T) (hT2 : T ≤ 1000000000000) :
    Calls Tryz.prog 40 #[.pointer (some ⟨p, 0, none⟩), .string nm, .slice As st.length cs] w (SpawnPost X M base T p P N (spawnN N nm st).1 w (.tuple #[.int .i64 (spawnN N nm st).2.1, .int .i64 (spawnN N nm st).2.2])) := by
  have hok := h.ok
  have hid := hok.id
  have hln := hok.len
  have HN := Lib.hid h
  have hplt := h.p_lt
  have hlb : base ≤ w.heap.size := by have := h.pM.2.2; omega
  have h10 : st.length ≤ 10 := by have := hro.len; rw [(makeN_ok hmk).1] at this; exact this
  have c2 : w.cell? ⟨p, 2, none⟩ = some (.iface 30 (.agg #[])) := by
    obtain ⟨_, _, _, _, _, _, _, _, h4, _⟩ := h
    obtain ⟨_, _, e, _⟩ := h4.c2
    exact e
  have c0 : w.cell? ⟨p, 0, none⟩ = some (.int .i64 N.id) := by
    obtain ⟨_, _, _, _, _, _, _, _, h4, _⟩ := h
    exact h4.c0
  have c6 : w.cell? ⟨p, 6, none⟩ = some (.int .i64 (N.spawned : Int)) := by
    obtain ⟨_, _, _, _, _, _, _, _, h4, _⟩ := h
    exact h4.c6
  have fz : ∀ o, w.frozen? ⟨p, o, none⟩ = false := by
    obtain ⟨_, _, _, _, _, _, _, _, h4, _⟩ := h
    exact h4.fz
  have HOK := Lib.hid hok
  have HT := Lib.hid (And.intro hT hT2)
  have HE := Lib.hid (spawnN_ok hmk hhas hfull hsp9)
  have HST := Lib.hid hst
  have HRO := Lib.hid hro
  have HRS := Lib.hid (makeN_ok hmk).1
  obtain ⟨rf, hrf⟩ : ∃ rf, N.id * 1000 + N.spawned + 1 = rf := ⟨_, rfl⟩
  have hrw : Wf rf := Wf.of (by omega) (by omega)
  have HRW := Lib.hid hrw
  obtain ⟨mb, c3, hmb, _, hlk1, hlk2⟩ := h.look
  have c3S := Lib.hid c3
  rw [hrf] at hhas
  have HK2 := Lib.hid (hlk2 rf hrw hhas)
  have HHAS := Lib.hid hhas
  have HRF := Lib.hid hrf
  have HSCR := Lib.hid (fun (W : World) (hf : Fr (fun _ => False) w W) => dnew_any base T nm st r S As cs rf W hmk hro (hst.fr (S' := S) hf (fun _ _ h => h) (fun _ hk _ => hk)) h10 (by have := hf.size; omega))
  have i1 : IntKind.i64.wrap (N.id * 1000) = N.id * 1000 := by rw [IntWalk.i64_in _ ⟨by omega, by omega⟩]
  have i2 : IntKind.i64.wrap (N.id * 1000 + (N.spawned : Int)) = N.id * 1000 + N.spawned := by rw [IntWalk.i64_in _ ⟨by omega, by omega⟩]
  have i3 : IntKind.i64.wrap (N.id * 1000 + (N.spawned : Int) + 1) = rf := by rw [IntWalk.i64_in _ ⟨by omega, by omega⟩]; exact hrf
  have i4 : IntKind.i64.wrap ((N.spawned : Int) + 1) = ((N.spawned + 1 : Nat) : Int) := by rw [IntWalk.i64_in _ ⟨by omega, by omega⟩]; omega
  have HLT := Lib.hid (show N.acts.length < 60 ∧ N.spawned + 1 ≤ 999 from ⟨by omega, by omega⟩)
  have e1 : decide ((60 : Int) ≤ (N.acts.length : Int)) = false := decide_eq_false (by omega)
  have e2 : decide ((999 : Int) ≤ (N.spawned : Int)) = false := decide_eq_false (by omega)
  have hmk2 := mkRefs2
  clear h hok hlk1 hlk2 hT hT2 hrw hrf hst hmk hro hhas hfull hsp9
  go_enter Tryz.func40, Tryz.ntmps40
  go_wp2_with fail
  go_region
  all_goals
    go_wp2_with fail
    refine (HSCR.out w.drew ((Fr.refl _ w).drew)).mono ?_
    rintro e w1 ⟨db, rb, rfl, hd1, hd2, hr1, hr2, hb1, hd⟩
    have HF1 := Lib.hid (show Fr (fun _ => False) w w1 from ((Fr.refl _ w).drew).trans' (Fr.of_below hb1))
    have HD := Lib.hid hd
    have HDL := Lib.hid (show w.heap.size ≤ db ∧ db < w1.heap.size ∧ w.heap.size ≤ rb ∧ rb < w1.heap.size from ⟨hd1, hd2, hr1, hr2⟩)
    have hz1' : w.heap.size < w1.heap.size := by have : w.heap.size ≤ db := hd1; omega
    have g0 := HF1.out.cell c0 (fun h => h)
    have g3 := HF1.out.cell c3 (fun h => h)
    have g6 := HF1.out.cell c6 (fun h => h)
    have gf : ∀ o, w1.frozen? ⟨p, o, none⟩ = false := fun o => (HF1.out.frozen hplt (fun h => h)).trans (fz o)
    have hpw1 : p < w1.heap.size := by omega
    have hlk := HK2.out w1 (HF1.out.weak (fun _ h => h.elim))
    have hlen1 : ∀ ty, (Builtin.len_ #[129] ty #[.map (some mb)]).run Tryz.prog w1 = .ok (.int .i64 (N.acts.length : Int)) w1 := fun ty => HN.out.mlen c3S.out ty w1 HF1.out
    clear hd hd1 hd2 hr1 hr2 hb1 HSCR c0 c2 c3 c6 fz HK2
    go_wp2_with fail
    obtain ⟨W0, hW0⟩ : ∃ W0, W0 = (w1.alloc (.map #[] 0)).alloc (.cells #[.pointer (some ⟨db, 0, none⟩), .int .i64 rf, .slice none 0 0, .int .i64 0, .bool false, .int .i64 0, .map (some w1.heap.size)] 148) := ⟨_, rfl⟩
    rw [← hW0]
    have hz0 : W0.heap.size = w1.heap.size + 2 := by rw [hW0]; simp
    have hf0 : Fr (fun _ => False) w1 W0 := by rw [hW0]; exact ((Fr.refl _ _).alloc _).alloc _
    have HF0 := Lib.hid hf0
    have hca : ∀ j u, ([.pointer (some ⟨db, 0, none⟩), .int .i64 rf, .slice none 0 0, .int .i64 0, .bool false, .int .i64 0, .map (some w1.heap.size)] : List Value)[j]? = some u → W0.cell? ⟨w1.heap.size + 1, j, none⟩ = some u := fun j u hj => by
      rw [hW0]
      have := cell_newL (w1.alloc (.map #[] 0)) _ 148 (w1.heap.size + 1) (by simp) j u hj
      rw [Addr.add_lit, Nat.zero_add] at this
      exact this
    have HCA := Lib.hid hca
    have hfa : ∀ o, W0.frozen? ⟨w1.heap.size + 1, o, none⟩ = false := fun o => by rw [hW0]; simp [go_sem]
    have HFA := Lib.hid hfa
    have HR0 := Lib.hid (show SpR w W0 w1.heap.size st 0 W0 from ⟨Fr.refl _ _, 0, Nat.le_refl _, by
      have h0 := OwnM.made w1
      have h1 : OwnM W0 w1.heap.size 0 (fun _ => none) := by rw [hW0]; exact h0.fr (S := fun _ => False) ((Fr.refl _ _).alloc _) (fun h => h)
      exact h1.congr (fun x _ => by show knG _ x = none; unfold knG; simp only [anyOf_nil]; rfl)⟩)
    clear hW0 hca hfa hlk hlen1
    go_loopw [13, 69] (fun _ i wr => ∃ q : Nat, q ≤ st.length ∧ i = .int .i64 (q : Int) ∧ Hid (SpR w W0 w1.heap.size st q wr)) (fun _ i _ => st.length - (intOf i).toNat)
    case atStart => exact ⟨0, Nat.zero_le _, rfl, HR0⟩
    case round =>
      clear HR0
      obtain ⟨q, hq, rfl, HR⟩ := hrel
      obtain ⟨l1, l2, l3, l4⟩ := HDL.out
      have hszr := HR.out.fr.size
      by_cases hlt : q < st.length
      · obtain ⟨b, off, hAb, hb, hSb, hC⟩ := HST.out.2.2 (by omega)
        subst hAb
        have hfw : Fr (fun k => k = w1.heap.size) w wr := ((HF1.out.trans' HF0.out).weak (fun _ h => h.elim)).trans' HR.out.fr
        have hbk : b ≠ w1.heap.size := by omega
        have c0 : wr.cell? ⟨b, off + q * 4, none⟩ = some (.int .i64 (stN st q).1) := hfw.cell (hC q hlt 0 _ rfl) hbk
        have c1 : wr.cell? ⟨b, off + q * 4 + 1, none⟩ = some (.int .i64 (stN st q).2) := hfw.cell (hC q hlt 1 _ rfl) hbk
        have c2 : wr.cell? ⟨b, off + q * 4 + 2, none⟩ = some (.string ⟨#[]⟩) := hfw.cell (hC q hlt 2 _ rfl) hbk
        have c3 : wr.cell? ⟨b, off + q * 4 + 3, none⟩ = some (.slice none 0 0) := hfw.cell (hC q hlt 3 _ rfl) hbk
        have a6 : wr.cell? ⟨w1.heap.size + 1, 6, none⟩ = some (.map (some w1.heap.size)) := HR.out.fr.cell (HCA.out 6 _ rfl) (by omega)
        have hal : w1.heap.size + 1 < wr.heap.size := by omega
        obtain ⟨W2, hW2⟩ : ∃ W2, W2 = wr.alloc (.cells #[.int .i64 (stN st q).1, .int .i64 (stN st q).2, .string ⟨#[]⟩, .slice none 0 0] 36) := ⟨_, rfl⟩
        have hf2 : Fr (fun _ => False) wr W2 := by rw [hW2]; exact (Fr.refl _ _).alloc _
        obtain ⟨n2, hn2, ho2⟩ := HR.out.kn
        have HCALL := Lib.hid (fun (W : World) (hf : Fr (fun _ => False) W2 W) => radd_any (vLeaf (stN st q).1 (stN st q).2) [.int .i64 (stN st q).1, .int .i64 (stN st q).2, .string ⟨#[]⟩, .slice none 0 0] (fun _ => False) w1.heap.size n2 _ W (leaf_V W _ _ _) (by have := st_wf HRO.out q; rw [HRS.out] at this; exact this) (by rw [many_leaf]; omega) (fun _ h => h.elim) ((ho2.fr hf2 (fun h => h)).fr hf (fun h => h)) (by rw [many_leaf]; omega))
        have HFW := Lib.hid hfw
        have HF2 := Lib.hid hf2
        have HW2 := Lib.hid hW2
        clear hf2 hW2 ho2 hC hfw g0 g3 g6 gf
        go_wp2_with fail
        rw [← HW2.out]
        have k6 : W2.cell? ⟨w1.heap.size + 1, 6, none⟩ = some (.map (some w1.heap.size)) := HF2.out.cell a6 (fun h => h)
        have d0 : W2.cell? ⟨wr.heap.size, 0, none⟩ = some (.int .i64 (stN st q).1) := by rw [HW2.out]; simp [go_sem]
        have d1 : W2.cell? ⟨wr.heap.size, 1, none⟩ = some (.int .i64 (stN st q).2) := by rw [HW2.out]; simp [go_sem]
        have d2 : W2.cell? ⟨wr.heap.size, 2, none⟩ = some (.string ⟨#[]⟩) := by rw [HW2.out]; simp [go_sem]
        have d3 : W2.cell? ⟨wr.heap.size, 3, none⟩ = some (.slice none 0 0) := by rw [HW2.out]; simp [go_sem]
        clear c0 c1 c2 c3 a6
        have HC2 := Lib.hid (HCALL.out W2.drew ((Fr.refl (fun _ => False) W2).drew))
        clear HCALL
        go_region_with (go_at_call 64; refine HC2.out.mono ?_; rintro e w3 ⟨rfl, hf3, n3, hn3, ho3⟩)
        all_goals
          have HO3 := Lib.hid ho3
          have HF3 := Lib.hid (show Fr (fun k => k = w1.heap.size) W2 w3 from ((Fr.refl _ W2).drew).trans' hf3)
          have hn4 : n3 ≤ q + 1 := by rw [many_leaf] at hn3; omega
          clear HC2 hn3 ho3 hf3 k6 d0 d1 d2 d3
          go_wp2_with fail
          go_roundw
          case rel =>
            refine ⟨q + 1, by omega, by go_num, Lib.hid ⟨(HR.out.fr.trans' (HF2.out.weak (fun _ h => h.elim))).trans' HF3.out, n3, hn4, ?_⟩⟩
            have := HO3.out
            simpa [anyOf_up] using this
          case measure => simp [intOf]; omega
      · obtain rfl : q = st.length := by omega
        have hfw : Fr (fun _ => False) w wr := HF1.out.trans (HF0.out.trans HR.out.fr (fun k hk => .inr (by omega))) (fun k hk => hk.elim)
        have c3 := hfw.cell c3S.out (fun h => h)
        have k6 : wr.cell? ⟨p, 6, none⟩ = some (.int .i64 (N.spawned : Int)) := HR.out.fr.cell (HF0.out.cell g6 (fun h => h)) (by omega)
        have kf : ∀ o, wr.frozen? ⟨p, o, none⟩ = false := fun o => (HR.out.fr.frozen (by omega) (by omega)).trans ((HF0.out.frozen hpw1 (fun h => h)).trans (gf o))
        have hpr : p < wr.heap.size := by omega
        clear g0 g3 g6 gf c3
        have hN1 := (HN.out.fr (X' := fun k => X k ∨ k = db ∨ k = rb ∨ k = w1.heap.size ∨ k = w1.heap.size + 1) hfw (fun k hk => hk.elim) (fun k hk => .inl hk) (fun k hk => by rcases hk with h | h | h | h | h; exact .inl h; all_goals exact .inr ⟨by omega, by omega⟩) (fun _ _ h => h)).set6 (k' := N.spawned + 1) HLT.out.2 (i := (N.spawned : Int) + 1) (by omega)
        obtain ⟨W3, hW3⟩ : ∃ W3, W3 = wr.setCell ⟨p, 6, none⟩ (.int .i64 ((N.spawned : Int) + 1)) := ⟨_, rfl⟩
        rw [← hW3] at hN1
        have hf3 : Fr (fun k => k = p) wr W3 := by rw [hW3]; exact Fr.setAt (Fr.refl _ _) _
        have hz3 : W3.heap.size = wr.heap.size := by rw [hW3]; simp
        obtain ⟨n3, hn3, ho3⟩ := HR.out.kn
        have hdia : DiaAt W3 (fun k => X k ∨ k = db ∨ k = rb ∨ k = w1.heap.size ∨ k = w1.heap.size + 1) base T db rb none (newD nm r) := by
          have h1 := HD.out (fun k => X k ∨ k = db ∨ k = rb) (fun k hk => by rcases hk with h | h | h; exact .inl (HN.out.xlt k h); exact .inr (.inl h); exact .inr (.inr h))
          have hf : Fr (fun k => k = p) w1 W3 := ((HF0.out.trans HR.out.fr (fun k hk => .inr (by omega))).weak (fun _ h => h.elim)).trans' hf3
          exact h1.fr hf (fun k hk => .inl (hk ▸ HN.out.pM.2.1)) (fun k hk => by rcases hk with h | h | h | h | h; exact .inl (.inl h); exact .inl (.inr (.inl h)); exact .inl (.inr (.inr h)); exact .inr (by omega); exact .inr (by omega)) (fun k hk => hk ▸ HN.out.pM.2.2) (Nat.le_refl _) (by omega) (by omega) (fun k hk => by cases hk)
        have hcell : ∀ j u, ([.pointer (some ⟨db, 0, none⟩), .int .i64 rf, .slice none 0 0, .int .i64 0, .bool false, .int .i64 0, .map (some w1.heap.size)] : List Value)[j]? = some u → W3.cell? ⟨w1.heap.size + 1, j, none⟩ = some u := fun j u hj => hf3.cell (HR.out.fr.cell (HCA.out j u hj) (by omega)) (by omega)
        have hA3 : ActG W3 (fun k => X k ∨ k = db ∨ k = rb ∨ k = w1.heap.size ∨ k = w1.heap.size + 1) base T (fun k => k = db ∨ k = rb ∨ k = w1.heap.size ∨ k = w1.heap.size + 1) (w1.heap.size + 1) db rb w1.heap.size none ⟨rf, newD nm r, [], 0, false, 0, stKn st⟩ := {
          dia := hdia
          a0 := hcell 0 _ rfl
          a1 := hcell 1 _ rfl
          a2 := ⟨none, 0, hcell 2 _ rfl, Nat.le_refl _, by omega, fun h => by simp at h⟩
          a3 := hcell 3 _ rfl
          a4 := hcell 4 _ rfl
          a5 := hcell 5 _ rfl
          a6 := hcell 6 _ rfl
          kn := ⟨n3, (ho3.fr hf3 (by omega)).congr (fun x _ => rfl), by have := HT.out.1; omega⟩
          fz := fun o => (hf3.frozen (by omega) (by omega)).trans ((HR.out.fr.frozen (by omega) (by omega)).trans (HFA.out o))
          mine := ⟨.inr (.inr (.inr rfl)), .inl rfl, .inr (.inl rfl), .inr (.inr (.inl rfl)), fun k hk => by cases hk⟩
          ap := ⟨by omega, by omega, by omega, by omega, by omega, fun k hk => by cases hk⟩
          lbp := ⟨by omega, by omega⟩ }
        have hact : ActOk ⟨rf, newD nm r, [], 0, false, 0, stKn st⟩ := ⟨⟨by simp, by simp, fun x hx => by simp at hx⟩, HRW.out, (fun e => by cases e), HRO.out⟩
        have HW3F := Lib.hid (show Fr M w W3 from (hfw.weak (fun _ h => h.elim)).trans' (hf3.weak (fun k hk => hk ▸ HN.out.pM.1)))
        have HCALL := Lib.hid (nadd_any hN1 hA3 hact (fun k hk => ⟨.inr hk, by rcases hk with h | h | h | h <;> omega⟩) (fun k hk hm => by have := HN.out.xlt k (HN.out.2.2.1 k hm).1; rcases hk with h | h | h | h <;> omega) HHAS.out HLT.out.1 HT.out.1)
        have HW3 := Lib.hid hW3
        have HZ3 := Lib.hid (And.intro hz3 (show w1.heap.size + 2 ≤ wr.heap.size by omega))
        clear hN1 hf3 hA3 hact hz3 hW3 hcell hdia hfw ho3 HR HF0 HCA HFA HST HRO
        go_wp2_with fail
        rw [← HW3.out]
        refine HCALL.out.mono ?_
        rintro e w4 ⟨rfl, X4, M4, hg4, hn4⟩
        have HG4 := Lib.hid hg4
        have HN4 := Lib.hid hn4
        clear hg4 hn4 HCALL
        go_wp2_with fail
        refine bodyPost_ret (results_two Tryz.results40 _ _) rfl ?_
        rw [HE.out, HRF.out]
        obtain ⟨z1, z2⟩ := HZ3.out
        refine ⟨_, fun x hx => if_neg (fun e => by rw [e, HHAS.out] at hx; cases hx), rfl, X4, M4, Gr.trans (X1 := fun k => X k ∨ k = db ∨ k = rb ∨ k = w1.heap.size ∨ k = w1.heap.size + 1) (M1 := fun k => M k ∨ (k = db ∨ k = rb ∨ k = w1.heap.size ∨ k = w1.heap.size + 1)) ⟨HW3F.out, fun k hk => .inl hk, fun k hk => ?_, fun k hk => ?_⟩ HG4.out, HN4.out⟩
        · rcases hk with h | h | h | h | h
          · exact .inl h
          all_goals exact .inr (by omega)
        · rcases hk with h | h | h | h | h
          · exact .inl h
          all_goals exact .inr (by omega)
end Go.Proofs.YthgbcgphkddmgaaGreat
namespace Go.Proofs.YthgbcgphkddmgaaGreat
open Go.RowKit Go.Maps
set_option linter.unusedVariables false
set_option linter.unusedSimpArgs false
theorem saidC_len (l : List (Int × Int)) : ∀ k, (saidC l k).length = 2 := fun _ => rfl
theorem saidC_one (l : List (Int × Int)) : ∀ k u, u ∈ saidC l k → u.oneCell' = true := fun k u h => by
  simp [saidC] at h
  rcases h with rfl | rfl <;> rfl
theorem info_cloneSd : (Tryz.prog.info? 75).map (fun i => (i.zero, i.size, i.bytes)) = some (some (.agg #[.int .i64 0, .int .i64 0]), 2, 16) := by kernel_rfl
set_option maxRecDepth 100000 in
set_option maxHeartbeats 400000 in
theorem cloneSd (A : Option Addr) (n c : Nat) (g : Nat → List Value) (w : World) (hR : Rd w 2 g A n) (hl : ∀ k, (g k).length = 2) (h1 : ∀ k u, u ∈ g k → u.oneCell' = true)
    (hA : A = none → n = 0) (hn : n * 16 ≤ 140737488355328) :
    Calls Tryz.prog 111 #[.slice A n c] w (ClonePost 75 2 n (flatC g n) w) := by
  obtain ⟨i0, hi, hz0, hz1, hz2⟩ := info_parts info_cloneSd
  have hnil := fun (w : World) => Lib.run_eql_slice_nil (P := Tryz.prog) w
  cases A with
  | none =>
    obtain rfl := hA rfl
    clear hR hl h1 hA hi hz0 hz1 hz2 hn
    go_enter Tryz.func111, Tryz.ntmps111
    go_wp2_with fail
    go_ret
    exact ⟨_, rfl, World.ownsRow_nil _ _ _ _, Below.refl _ _⟩
  | some a =>
    have hn0 : ∀ (o : Obj) j u, (flatC g n)[j]? = some u → (w.alloc o).cell? (a.add j) = some u := fun o j u hu => by
      obtain ⟨q1, q2, q3⟩ := flatC_at hl (by omega) hu
      obtain ⟨b, off, hab, hb, hc⟩ := hR (by omega)
      injection hab with hab
      subst hab
      have e : (⟨b, off, none⟩ : Addr).add j = ⟨b, off + j / 2 * 2 + j % 2, none⟩ := by
        have := Nat.div_add_mod' j 2
        unfold Addr.add
        split
        · rename_i h; subst h; simp
        · simp; omega
      rw [e, World.cell?_alloc_lt _ _ _ hb]
      exact hc _ q1 _ _ q3
    have HN := Lib.hid hn0
    have H1 := Lib.hid h1
    have HL := Lib.hid (flatC_length hl n)
    clear hR hl h1 hA hn0
    go_enter Tryz.func111, Tryz.ntmps111
    go_wp2_with (at_builtin; refine wpList_append_own _ rfl _ _ 70 rfl w.heap.size 75 i0 _ 2 16 Tryz.underlying70 hi hz0 hz1 hz2 rfl (by omega) (.slice (some ⟨w.heap.size, 0, none⟩) 0 0) 0 [] rfl (World.ownsRow_lit w #[] 0 (Nat.le_refl _) (by simp [maxLen]) rfl) a n c (flatC g n) rfl HL.out (HN.out _) (fun u hu => by obtain ⟨k, _, hk⟩ := flatC_mem hu; exact H1.out k u hk) (by unfold maxLen; omega) (by omega) (by simp) ?_; intro v1 w1 hown hgrow _; simp only [Nat.zero_add, List.nil_append] at hown)
    go_ret
    exact ⟨v1, rfl, hown, ((Below.refl _ _).alloc (Nat.le_refl _) _).grown hgrow (by simp) (by simp [Value.ownBlock])⟩

/-- a row of the call's own that holds what was said -/
def OwnSd (w : World) (base : Nat) (v : Value) (l : List (Int × Int)) : Prop := w.ownsRow base 75 2 v l.length (flatC (saidC l) l.length)
theorem OwnSd.rd {w : World} {base n c : Nat} {A : Option Addr} {l : List (Int × Int)} (h : OwnSd w base (.slice A n c) l) : n = l.length ∧ Rd w 2 (saidC l) A l.length := by
  obtain ⟨A', c', hv, _⟩ := own_any h
  injection hv with h1 h2 h3
  subst h1 h2 h3
  exact ⟨rfl, Rd.of_own (saidC_len l) (c := c) (base := base) (e := 75) h⟩
theorem OwnSd.below {w w1 : World} {base : Nat} {v : Value} {l : List (Int × Int)} (h : OwnSd w base v l) (hb : Below w.heap.size w w1) : OwnSd w1 base v l := own_keep h hb
set_option maxRecDepth 100000 in
set_option maxHeartbeats 4000000 in
theorem said_any {w : World} {X M : Nat → Prop} {base T p : Nat} {P : Int → Nat} {N : NdS} (h : NodeAt w X M base T p P N) (hT : T ≤ 1000000000000) :
    Calls Tryz.prog 62 #[.pointer (some ⟨p, 0, none⟩)] w fun e w' => ∃ A c, e = .returned (.slice A N.said.length c) ∧ OwnSd w' w.heap.size (.slice A N.said.length c) N.said ∧ Below w.heap.size w w' := by
  obtain ⟨A, c, sb, c9, hown, hbk, hlen, hsb, _⟩ := h.saidRow
  obtain ⟨A', c', hv, _, _, hA⟩ := own_any hown
  injection hv with e1 _ e3
  subst e1 e3
  have HC := Lib.hid (cloneSd A N.said.length c (saidC N.said) w (Rd.of_own (saidC_len _) (c := c) (base := base) (e := 75) hown) (saidC_len _) (saidC_one _) hA (by omega))
  clear h hown hbk hsb hA
  go_enter Tryz.func62, Tryz.ntmps62
  go_wp2_with fail
  refine HC.out.mono ?_
  rintro e w1 ⟨v1, rfl, hown1, hb1⟩
  have HO := Lib.hid hown1
  obtain ⟨A1, c1, rfl, _, _, _⟩ := own_any hown1
  have HB := Lib.hid hb1
  clear hown1 hb1
  go_wp2_with fail
  go_ret
  exact ⟨A1, c1, rfl, HO.out, HB.out⟩
set_option maxHeartbeats 4000000 in
theorem equalSd_same (A B : Option Addr) (n m c d : Nat) (l : List (Int × Int)) (w : World) (hn : n = l.length) (hm : m = l.length) (hl : n ≤ 9223372036854775807) (hR : Rd w 2 (saidC l) A l.length) (hS : Rd w 2 (saidC l) B l.length) :
    Calls Tryz.prog 32 #[.slice A n c, .slice B m d] w fun e w' => e = .returned (.bool true) ∧ Below w.heap.size w w' := by
  subst hn hm
  have HR := Lib.hid hR
  have HS := Lib.hid hS
  clear hR hS
  go_enter Tryz.func32, Tryz.ntmps32
  go_wp2_with fail
  go_loopw [5, 13] (fun _ x wr => ∃ k : Nat, k ≤ l.length ∧ x = .int .i64 k ∧ Below w.heap.size w wr) (fun _ x _ => l.length - (intOf x).toNat)
  case atStart => exact ⟨0, by omega, rfl, Below.refl _ _⟩
  case round =>
    obtain ⟨k, hk, rfl, hB⟩ := hrel
    have HB := Lib.hid hB
    by_cases hlt : k < l.length
    · obtain ⟨b, off, rfl, hb0, hcell⟩ := (HR.out.below hB) (by omega)
      obtain ⟨b', off', rfl, hb0', hcell'⟩ := (HS.out.below hB) (by omega)
      have c0 := hcell k hlt 0 _ rfl
      have c1 := hcell k hlt 1 _ rfl
      have e0 := hcell' k hlt 0 _ rfl
      have e1 := hcell' k hlt 1 _ rfl
      simp only [Nat.add_zero] at c0 e0
      clear hcell hcell' hB
      generalize l.getD k (0, 0) = r at *
      obtain ⟨r1, r2⟩ := r
      dsimp only at c0 c1 e0 e1
      have i1 : (0 : Int) ≤ (k : Int) := by omega
      have i2 : (k : Int) < (l.length : Int) := by omega
      go_wp2_with fail
      go_quiet (fail)
      go_wp2_with fail
      go_roundw
      case rel => exact ⟨k + 1, by omega, by go_num, below_drewN HB.out _⟩
      case measure => simp [intOf]; omega
    · obtain rfl : k = l.length := by omega
      go_wp2_with fail
      go_ret
      exact ⟨rfl, HB.out⟩
theorem NodeG.out0 {w : World} {X : Nat → Prop} {base T p mb hb : Nat} {P : Int → Nat} {MA : Int → Nat → Prop} {ob sb : Option Nat} {N : NdS} (h : NodeG w X base T p mb hb P MA ob sb N) (hp : X p ∧ base ≤ p) : NodeG (w.setCell ⟨p, 8, none⟩ (.slice none 0 0)) X base T p mb hb P MA none sb (outN N) := by
  have hf : Fr (fun k => k = p) w (w.setCell ⟨p, 8, none⟩ (.slice none 0 0)) := Fr.setAt (Fr.refl _ w) _
  have hS : ∀ k, k = p → X k ∧ base ≤ k := fun k hk => hk ▸ hp
  have R := h.rest (X' := X) hf hS (fun k hk => .inl hk) (Nat.le_refl _) (fun k hk => .inl hk)
  obtain ⟨A2, c2, s1, s2⟩ := h.c2
  obtain ⟨v4, r1, r2⟩ := h.c4
  obtain ⟨v8, C, o1, o2⟩ := h.c8
  obtain ⟨v9, q1, q2, q3⟩ := h.c9
  obtain ⟨a1, a2, a3, a4, a5⟩ := h.ap
  exact ⟨set_other h.c0 (by decide), set_other h.c1 (by decide), ⟨A2, c2, set_other s1 (by decide), s2.fr hf (fun k hk => (hS k hk).2)⟩, set_other h.c3 (by decide), ⟨v4, set_other r1 (by decide), r2.fr hf (fun k hk => (hS k hk).1) (fun k hk => .inl hk)⟩, set_other h.c5 (by decide), set_other h.c6 (by decide), set_other h.c7 (by decide),
    ⟨.slice none 0 0, C, set_this o1, World.ownsRow_nil _ _ _ _, o2.len, fun i hi => absurd hi (by show ¬ i < 0; omega), rfl⟩, ⟨v9, set_other q1 (by decide), hf.row q2 (fun k hk hs => (a5 k (q3.symm.trans hk)).1 hs), q3⟩, set_fz h.fz, R.am, R.hm, R.acts, h.disj, fun a ha k hk => by
      obtain ⟨o1, o2, o3, o4, o5⟩ := h.own a ha k hk
      exact ⟨o1, o2, o3, (fun e => by cases e), o5⟩, ⟨a1, a2, a3, (fun k hk => by cases hk), a5⟩, by
      have := h.lim
      exact ⟨by show 0 + 201 * N.acts.length ≤ T; omega, this.2⟩⟩
/-- the letters that were told lie in blocks of S, which the node writes no more -/
def OutPost (X M : Nat → Prop) (base T p : Nat) (P : Int → Nat) (N : NdS) (w : World) (e : Ending) (w' : World) : Prop :=
  ∃ A c S M', e = .returned (.slice A N.out.length c) ∧ N.out.length ≤ c ∧ c ≤ 9223372036854775807 ∧ RdL w' S A N.out.length (nthL N.out) ∧ (∀ k, S k → ¬ M' k) ∧ Gr X M w X M' w' ∧ NodeAt w' X M' base T p P (outN N)
end Go.Proofs.YthgbcgphkddmgaaGreat
namespace Go.Proofs.YthgbcgphkddmgaaGreat
open Go.RowKit Go.Maps
set_option linter.unusedVariables false
set_option linter.unusedSimpArgs false
theorem mkActs : ∀ w, (Instr.makeMap 129 none).run Tryz.prog w = .ok (.map (some w.heap.size)) (w.alloc (.map #[] 0)) := fun w => by kernel_rfl
theorem mkHomes : ∀ w, (Instr.makeMap 83 none).run Tryz.prog w = .ok (.map (some w.heap.size)) (w.alloc (.map #[] 0)) := fun w => by kernel_rfl
theorem rowsOk_nil : RowsOk [] := ⟨⟨Nat.zero_le _, fun k hk => absurd hk (by show ¬ k < 0; omega)⟩, fun r hr => by cases hr⟩
/-- a new node: X0, what others may write -/
def NewPost (X0 : Nat → Prop) (base : Nat) (N : NdS) (w : World) (e : Ending) (w' : World) : Prop :=
  ∃ p P, e = .returned (.tuple #[.pointer (some ⟨p, 0, none⟩), .int .i64 0]) ∧ w.heap.size ≤ p ∧ Fr (fun _ => False) w w' ∧ NodeAt w' (fun k => X0 k ∨ w.heap.size ≤ k ∧ k < w'.heap.size) (fun k => w.heap.size ≤ k ∧ k < w'.heap.size) base 0 p P N
set_option maxRecDepth 100000 in
set_option maxHeartbeats 4000000 in
theorem new_any (X0 : Nat → Prop) (base : Nat) (id : Int) (fuel : Nat) (w : World) (hX : ∀ k, X0 k → k < w.heap.size) (hb : base ≤ w.heap.size) (hid : 1 ≤ id ∧ id ≤ 8) (hf : 1 ≤ fuel ∧ fuel ≤ 10000) :
    Calls Tryz.prog 34 #[.int .i64 id, .iface 30 (.agg #[]), .int .i64 (fuel : Int)] w (NewPost X0 base (newN id fuel) w) := by
  have g1 : decide (id < 1) = false := decide_eq_false (by omega)
  have g2 : decide ((8 : Int) < id) = false := decide_eq_false (by omega)
  have g3 : decide ((fuel : Int) < 1) = false := decide_eq_false (by omega)
  have g4 : decide ((10000 : Int) < (fuel : Int)) = false := decide_eq_false (by omega)
  have m1 := mkActs
  have m2 := mkHomes
  have HFIN := Lib.hid (show NewPost X0 base (newN id fuel) w (.returned (.tuple #[.pointer (some ⟨w.heap.size + 2, 0, none⟩), .int .i64 0])) (((w.alloc (.map #[] 0)).alloc (.map #[] 0)).alloc (.cells #[.int .i64 id, .int .i64 (fuel : Int), .iface 30 (.agg #[]), .map (some w.heap.size), .slice none 0 0, .map (some (w.heap.size + 1)), .int .i64 0, .int .i64 0, .slice none 0 0, .slice none 0 0] 132)) from by
    obtain ⟨W, hW⟩ : ∃ W, W = ((w.alloc (.map #[] 0)).alloc (.map #[] 0)).alloc (.cells #[.int .i64 id, .int .i64 (fuel : Int), .iface 30 (.agg #[]), .map (some w.heap.size), .slice none 0 0, .map (some (w.heap.size + 1)), .int .i64 0, .int .i64 0, .slice none 0 0, .slice none 0 0] 132) := ⟨_, rfl⟩
    rw [← hW]
    have hfr : Fr (fun _ => False) w W := by rw [hW]; exact (((Fr.refl _ w).alloc _).alloc _).alloc _
    have hsz : W.heap.size = w.heap.size + 3 := by rw [hW]; simp
    have hcell : ∀ j u, ([.int .i64 id, .int .i64 (fuel : Int), .iface 30 (.agg #[]), .map (some w.heap.size), .slice none 0 0, .map (some (w.heap.size + 1)), .int .i64 0, .int .i64 0, .slice none 0 0, .slice none 0 0] : List Value)[j]? = some u → W.cell? ⟨w.heap.size + 2, j, none⟩ = some u := fun j u hj => by
      rw [hW]
      have := cell_newL ((w.alloc (.map #[] 0)).alloc (.map #[] 0)) [.int .i64 id, .int .i64 (fuel : Int), .iface 30 (.agg #[]), .map (some w.heap.size), .slice none 0 0, .map (some (w.heap.size + 1)), .int .i64 0, .int .i64 0, .slice none 0 0, .slice none 0 0] 132 (w.heap.size + 2) (by simp) j u hj
      rw [Addr.add_lit, Nat.zero_add] at this
      exact this
    have o1 : OwnM W w.heap.size 0 (fun _ => none) := by
      have h0 := OwnM.made w
      rw [hW]
      exact (h0.fr (S := fun _ => False) ((Fr.refl _ _).alloc _) (fun h => h)).fr (S := fun _ => False) ((Fr.refl _ _).alloc _) (fun h => h)
    have o2 : OwnM W (w.heap.size + 1) 0 (fun _ => none) := by
      have h0 := OwnM.made (w.alloc (.map #[] 0))
      have h1 : OwnM ((w.alloc (.map #[] 0)).alloc (.map #[] 0)) (w.heap.size + 1) 0 (fun _ => none) := by simpa using h0
      rw [hW]
      exact h1.fr (S := fun _ => False) ((Fr.refl _ _).alloc _) (fun h => h)
    refine ⟨w.heap.size + 2, fun _ => 0, rfl, by omega, hfr, ⟨hid, hf, Nat.zero_le _, List.Pairwise.nil, fun a ha => (by cases ha), rowsOk_nil, Nat.zero_le _⟩, fun k hk => ?_, fun k hk => ⟨.inr hk, by omega⟩, w.heap.size, w.heap.size + 1, fun _ _ => False, none, none, ?_, ⟨by show _ ∧ _; omega, by show _ ∧ _; omega, by show _ ∧ _; omega, fun k hk => (by cases hk), fun k hk => (by cases hk), fun a ha => (by cases ha)⟩⟩
    · rcases hk with hk | hk
      · exact Nat.lt_of_lt_of_le (hX k hk) hfr.size
      · exact hk.2
    · exact ⟨hcell 0 _ rfl, hcell 1 _ rfl, ⟨none, 0, hcell 2 _ rfl, trivial⟩, hcell 3 _ rfl, ⟨_, hcell 4 _ rfl, none, 0, fun _ => .slice none 0 0, fun _ => .slice none 0 0, rfl, ⟨World.ownsRow_nil _ _ _ _, fun i hi => absurd hi (by show ¬ i < 0; omega), fun i j hi => absurd hi (by show ¬ i < 0; omega), fun i hi => absurd hi (by show ¬ i < 0; omega)⟩, fun k hk => (by cases hk), fun i hi => absurd hi (by show ¬ i < 0; omega)⟩, hcell 5 _ rfl, hcell 6 _ rfl, hcell 7 _ rfl,
        ⟨_, fun _ => [.int .i64 0, .int .i64 0, .int .i64 0, .int .i64 0, .int .i64 0, .int .i64 0, .int .i64 0, .int .i64 0, .int .i64 0], hcell 8 _ rfl, World.ownsRow_nil _ _ _ _, fun _ => rfl, fun i hi => absurd hi (by show ¬ i < 0; omega), rfl⟩, ⟨_, hcell 9 _ rfl, World.ownsRow_nil _ _ _ _, rfl⟩, fun o => by rw [hW]; simp [go_sem], o1.congr (fun x _ => rfl), ⟨0, o2.congr (fun x _ => rfl), Nat.le_refl _⟩, fun a ha => (by cases ha), fun a b ha => (by cases ha), fun a ha => (by cases ha), ⟨by omega, by omega, by omega, fun k hk => (by cases hk), fun k hk => (by cases hk)⟩, ⟨Nat.le_refl _, Nat.le_refl _⟩⟩)
  clear hX hb hid hf
  go_enter Tryz.func34, Tryz.ntmps34
  go_wp2_with fail
  refine bodyPost_ret (v := .tuple #[.pointer (some ⟨w.heap.size + 2, 0, none⟩), .int .i64 0]) (by simp [results, Tryz.results34, go_sem]) rfl ?_
  exact HFIN.out
end Go.Proofs.YthgbcgphkddmgaaGreat
namespace Go.Proofs.YthgbcgphkddmgaaGreat
open Go.RowKit Go.Maps
set_option linter.unusedVariables false
set_option linter.unusedSimpArgs false
def updN {α : Type} (f : Nat → α) (i : Nat) (v : α) : Nat → α := fun j => if j = i then v else f j
theorem updN_self {α : Type} (f : Nat → α) (i : Nat) (v : α) : updN f i v i = v := by simp [updN]
theorem updN_ne {α : Type} (f : Nat → α) {i j : Nat} (v : α) (h : j ≠ i) : updN f i v j = f j := by simp [updN, h]
/-- the cluster's own blocks -/
inductive CBk
  | P | Va | Vb
  | Tb (i : Nat) | Mb (i : Nat)
  | Ed (i k : Nat)
  | Me | Mw | Mt | Mo | Mh
def CBk.ok (n : Nat) : CBk → Prop
  | .Tb i => i < n
  | .Mb i => i < n
  | .Ed i k => i < n ∧ k < n ∧ i ≠ k
  | _ => True
/-- a quiet cluster: n nodes; names; who is held -/
structure CqS where
  n : Nat
  nd : Nat → NdS
  cnt : Nat → Int
  tab : Nat → Nat → Option Nm.RW
  held : Int → Bool
  hn : Nat
/-- an end that has nothing to say -/
structure EndQ (w : World) (q : Nat) : Prop where
  c0 : w.cell? ⟨q, 0, none⟩ = some (.int .i64 8)
  c1 : w.cell? ⟨q, 1, none⟩ = some (.int .i64 8)
  c2 : w.cell? ⟨q, 2, none⟩ = some (.int .u32 0)
  c3 : w.cell? ⟨q, 3, none⟩ = some (.int .u32 0)
  c4 : w.cell? ⟨q, 4, none⟩ = some (.slice none 0 0)
  c5 : w.cell? ⟨q, 5, none⟩ = some (.slice none 0 0)
  c6 : w.cell? ⟨q, 6, none⟩ = some (.bool false)
  fz : ∀ o, w.frozen? ⟨q, o, none⟩ = false
theorem EndQ.fr {D : Nat → Prop} {w w' : World} {q : Nat} (h : EndQ w q) (hf : Fr D w w') (hn : ¬ D q) : EndQ w' q :=
  ⟨hf.cell h.c0 hn, hf.cell h.c1 hn, hf.cell h.c2 hn, hf.cell h.c3 hn, hf.cell h.c4 hn, hf.cell h.c5 hn, hf.cell h.c6 hn, fun o => (hf.frozen (World.block_lt_of_cell? w _ h.c0) hn).trans (h.fz o)⟩
theorem EndQ.lt {w : World} {q : Nat} (h : EndQ w q) : q < w.heap.size := World.block_lt_of_cell? w _ h.c0
/-- the cluster's own cells -/
structure CqP (w : World) (bl : CBk → Nat) (n : Nat) (vl : Value) : Prop where
  c0 : ∃ c, w.cell? ⟨bl .P, 0, none⟩ = some (.slice (some ⟨bl .Va, 0, none⟩) n c)
  c1 : ∃ c, w.cell? ⟨bl .P, 1, none⟩ = some (.slice (some ⟨bl .Vb, 0, none⟩) n c)
  c2 : w.cell? ⟨bl .P, 2, none⟩ = some (.map (some (bl .Me)))
  c3 : w.cell? ⟨bl .P, 3, none⟩ = some (.map (some (bl .Mw)))
  c4 : w.cell? ⟨bl .P, 4, none⟩ = some (.map (some (bl .Mt)))
  c5 : w.cell? ⟨bl .P, 5, none⟩ = some (.slice none 0 0)
  c6 : w.cell? ⟨bl .P, 6, none⟩ = some (.map (some (bl .Mo)))
  c7 : w.cell? ⟨bl .P, 7, none⟩ = some (.map (some (bl .Mh)))
  c8 : w.cell? ⟨bl .P, 8, none⟩ = some vl
  fz : ∀ o, w.frozen? ⟨bl .P, o, none⟩ = false
theorem CqP.fr {D : Nat → Prop} {w w' : World} {bl : CBk → Nat} {n : Nat} {vl : Value} (h : CqP w bl n vl) (hf : Fr D w w') (hn : ¬ D (bl .P)) : CqP w' bl n vl := by
  obtain ⟨a, ha⟩ := h.c0
  obtain ⟨b, hb⟩ := h.c1
  exact ⟨⟨a, hf.cell ha hn⟩, ⟨b, hf.cell hb hn⟩, hf.cell h.c2 hn, hf.cell h.c3 hn, hf.cell h.c4 hn, hf.cell h.c5 hn, hf.cell h.c6 hn, hf.cell h.c7 hn, hf.cell h.c8 hn, fun o => (hf.frozen (World.block_lt_of_cell? w _ ha) hn).trans (h.fz o)⟩
def endsG (bl : CBk → Nat) (n : Nat) (i k : Nat) : Option Value := if 1 ≤ i ∧ i ≤ n ∧ 1 ≤ k ∧ k ≤ n ∧ i ≠ k then some (.pointer (some ⟨bl (.Ed (i - 1) (k - 1)), 0, none⟩)) else none
/-- the cluster's other data, but the nodes -/
structure CqO (w : World) (base : Nat) (bl : CBk → Nat) (pn : Nat → Nat) (C : CqS) (vl : Value) (ll : Nat) : Prop where
  ra : ∀ i, i < C.n → w.cell? ⟨bl .Va, i, none⟩ = some (.pointer (some ⟨pn i, 0, none⟩))
  rb : ∀ i, i < C.n → w.cell? ⟨bl .Vb, i, none⟩ = some (.pointer (some ⟨bl (.Tb i), 0, none⟩))
  nm : ∀ i, i < C.n → Nm.NmAt w (bl (.Tb i)) ((i : Int) + 1) (C.cnt i) (bl (.Mb i)) (C.tab i)
  me : ∃ m, m ≤ 100 ∧ OwnW w (bl .Me) m (endsG bl C.n)
  ed : ∀ i k, i < C.n → k < C.n → i ≠ k → EndQ w (bl (.Ed i k))
  mw : OwnW w (bl .Mw) 0 (fun _ _ => none)
  mt : OwnW w (bl .Mt) 0 (fun _ _ => none)
  mo : OwnM w (bl .Mo) 0 (fun _ => none)
  mh : ∃ m, m ≤ C.hn ∧ OwnM w (bl .Mh) m (knG C.held)
  lg : ∃ xs, w.ownsRow base 106 4 vl ll xs
theorem CqO.fr {D : Nat → Prop} {w w' : World} {base : Nat} {bl : CBk → Nat} {pn : Nat → Nat} {C : CqS} {vl : Value} {ll : Nat} (h : CqO w base bl pn C vl ll) (hf : Fr D w w') (hn : ∀ a, a.ok C.n → ¬ D (bl a)) (hl : ∀ k, vl.ownBlock = some k → ¬ D k) : CqO w' base bl pn C vl ll := by
  obtain ⟨m1, q1, h1⟩ := h.me
  obtain ⟨m2, q2, h2⟩ := h.mh
  obtain ⟨xs, h3⟩ := h.lg
  exact ⟨fun i hi => hf.cell (h.ra i hi) (hn .Va trivial), fun i hi => hf.cell (h.rb i hi) (hn .Vb trivial), fun i hi => (h.nm i hi).fr hf (hn (.Tb i) hi) (hn (.Mb i) hi), ⟨m1, q1, h1.fr hf (hn .Me trivial)⟩,
    fun i k hi hk e => (h.ed i k hi hk e).fr hf (hn (.Ed i k) ⟨hi, hk, e⟩), h.mw.fr hf (hn .Mw trivial), h.mt.fr hf (hn .Mt trivial), h.mo.fr hf (hn .Mo trivial), ⟨m2, q2, h2.fr hf (hn .Mh trivial)⟩, ⟨xs, hf.row h3 hl⟩⟩
structure CqG (w : World) (X Mc : Nat → Prop) (base T : Nat) (bl : CBk → Nat) (pn : Nat → Nat) (vl : Value) (ll : Nat) (M : Nat → Nat → Prop) (Pn : Nat → Int → Nat) (C : CqS) : Prop where
  n8 : 1 ≤ C.n ∧ C.n ≤ 8
  inj : ∀ a b, a.ok C.n → b.ok C.n → bl a = bl b → a = b
  own : ∀ a, a.ok C.n → Mc (bl a) ∧ ∀ i, i < C.n → ¬ M i (bl a)
  vlm : ∀ k, vl.ownBlock = some k → Mc k ∧ (∀ i, i < C.n → ¬ M i k) ∧ ∀ a, a.ok C.n → bl a ≠ k
  sub : ∀ i, i < C.n → ∀ k, M i k → Mc k
  mx : ∀ k, Mc k → X k ∧ base ≤ k
  dis : ∀ i j, i < C.n → j < C.n → i ≠ j → ∀ k, M i k → ¬ M j k
  nd : ∀ i, i < C.n → NodeAt w X (M i) base T (pn i) (Pn i) (C.nd i)
  ids : ∀ i, i < C.n → (C.nd i).id = (i : Int) + 1
  cp : CqP w bl C.n vl
  co : CqO w base bl pn C vl ll
/-- a quiet cluster -/
def CqAt (w : World) (X Mc : Nat → Prop) (base T : Nat) (bl : CBk → Nat) (pn : Nat → Nat) (ll : Nat) (C : CqS) : Prop := ∃ vl M Pn, CqG w X Mc base T bl pn vl ll M Pn C
section
variable {w w' : World} {X X' Mc D : Nat → Prop} {base T T' : Nat} {bl : CBk → Nat} {pn : Nat → Nat} {vl : Value} {ll : Nat} {M : Nat → Nat → Prop} {Pn : Nat → Int → Nat} {C : CqS}
theorem CqG.xlt (h : CqG w X Mc base T bl pn vl ll M Pn C) : ∀ k, X k → k < w.heap.size := (h.nd 0 (by have := h.n8.1; omega)).xlt
theorem CqG.ne (h : CqG w X Mc base T bl pn vl ll M Pn C) {a b : CBk} (ha : a.ok C.n) (hb : b.ok C.n) (e : a ≠ b) : bl a ≠ bl b := fun h2 => e (h.inj a b ha hb h2)
/-- others write -/
theorem CqG.fr (h : CqG w X Mc base T bl pn vl ll M Pn C) (hf : Fr D w w') (hD : ∀ k, D k → X k ∧ base ≤ k ∧ ¬ Mc k) (hx : ∀ k, X k → X' k) (hX : ∀ k, X' k → X k ∨ w.heap.size ≤ k ∧ k < w'.heap.size) : CqG w' X' Mc base T bl pn vl ll M Pn C :=
  ⟨h.n8, h.inj, h.own, h.vlm, h.sub, fun k hk => ⟨hx k (h.mx k hk).1, (h.mx k hk).2⟩, h.dis, fun i hi => (h.nd i hi).fr hf (fun k hk => ⟨(hD k hk).1, (hD k hk).2.1⟩) hx hX (fun k hk hd => (hD k hd).2.2 (h.sub i hi k hk)), h.ids, h.cp.fr hf (fun hd => (hD _ hd).2.2 (h.own .P trivial).1), h.co.fr hf (fun a ha hd => (hD _ hd).2.2 (h.own a ha).1) (fun k hk hd => (hD _ hd).2.2 (h.vlm k hk).1)⟩
theorem CqG.new (h : CqG w X Mc base T bl pn vl ll M Pn C) (hf : Fr (fun _ => False) w w') : CqG w' X Mc base T bl pn vl ll M Pn C := h.fr hf (fun _ h => h.elim) (fun _ h => h) (fun _ h => .inl h)
/-- the cluster writes its own blocks -/
theorem CqG.nodes (h : CqG w X Mc base T bl pn vl ll M Pn C) (hf : Fr D w w') (hD : ∀ k, D k → (∃ a, a.ok C.n ∧ k = bl a) ∨ vl.ownBlock = some k) : ∀ i, i < C.n → NodeAt w' X (M i) base T (pn i) (Pn i) (C.nd i) := fun i hi =>
  (h.nd i hi).fr hf (fun k hk => by
    rcases hD k hk with ⟨a, ha, rfl⟩ | e
    · exact h.mx _ (h.own a ha).1
    · exact h.mx _ (h.vlm k e).1) (fun _ h => h) (fun _ h => .inl h) (fun k hm hk => by
    rcases hD k hk with ⟨a, ha, rfl⟩ | e
    · exact (h.own a ha).2 i hi hm
    · exact (h.vlm k e).2.1 i hi hm)
/-- a node has turned -/
theorem CqG.node (h : CqG w X Mc base T bl pn vl ll M Pn C) {i : Nat} (hi : i < C.n) {Mi' : Nat → Prop} {P' : Int → Nat} {N' : NdS} (hg : Gr X (M i) w X' Mi' w') (hN : NodeAt w' X' Mi' base T' (pn i) P' N') (hT : T ≤ T') (hid : N'.id = (i : Int) + 1) :
    CqG w' X' (fun k => Mc k ∨ Mi' k) base T' bl pn vl ll (updN M i Mi') (updN Pn i P') { C with nd := updN C.nd i N' } := by
  have hX : ∀ k, X' k → X k ∨ w.heap.size ≤ k ∧ k < w'.heap.size := fun k hk => by
    rcases hg.xs k hk with e | e
    · exact .inl e
    · exact .inr ⟨e, hN.xlt k hk⟩
  have hms : ∀ k, k < w.heap.size → Mi' k → M i k := fun k hk hm => by
    rcases hg.ms k hm with e | e
    · exact e
    · omega
  have hmc : ∀ k, Mc k → k < w.heap.size := fun k hk => h.xlt k (h.mx k hk).1
  refine ⟨h.n8, h.inj, fun a ha => ⟨.inl (h.own a ha).1, fun j hj => ?_⟩, fun k hk => ⟨.inl (h.vlm k hk).1, fun j hj => ?_, (h.vlm k hk).2.2⟩, fun j hj k hk => ?_, fun k hk => ?_, fun j l hj hl e k hk => ?_, fun j hj => ?_, fun j hj => ?_, h.cp.fr hg.fr (fun hd => (h.own .P trivial).2 i hi hd), ?_⟩
  · by_cases e : j = i
    · subst e
      rw [updN_self]
      exact fun hm => (h.own a ha).2 j hj (hms _ (hmc _ (h.own a ha).1) hm)
    · rw [updN_ne _ _ e]
      exact (h.own a ha).2 j hj
  · by_cases e : j = i
    · subst e
      rw [updN_self]
      exact fun hm => (h.vlm k hk).2.1 j hj (hms _ (hmc _ (h.vlm k hk).1) hm)
    · rw [updN_ne _ _ e]
      exact (h.vlm k hk).2.1 j hj
  · by_cases e : j = i
    · subst e
      rw [updN_self] at hk
      exact .inr hk
    · rw [updN_ne _ _ e] at hk
      exact .inl (h.sub j hj k hk)
  · rcases hk with hk | hk
    · exact ⟨hg.up k (h.mx k hk).1, (h.mx k hk).2⟩
    · exact hN.2.2.1 k hk
  · by_cases e1 : j = i
    · subst e1
      rw [updN_self] at hk
      rw [updN_ne _ _ (fun e2 => e e2.symm)]
      exact fun hm => h.dis j l hj hl e k (hms k (hmc k (h.sub l hl k hm)) hk) hm
    · rw [updN_ne _ _ e1] at hk
      by_cases e2 : l = i
      · subst e2
        rw [updN_self]
        exact fun hm => h.dis j l hj hl e k hk (hms k (hmc k (h.sub j hj k hk)) hm)
      · rw [updN_ne _ _ e2]
        exact h.dis j l hj hl e k hk
  · by_cases e : j = i
    · subst e
      show NodeAt w' X' (updN M j Mi' j) base T' (pn j) (updN Pn j P' j) (updN C.nd j N' j)
      rw [updN_self, updN_self, updN_self]
      exact hN
    · show NodeAt w' X' (updN M i Mi' j) base T' (pn j) (updN Pn i P' j) (updN C.nd i N' j)
      rw [updN_ne _ _ e, updN_ne _ _ e, updN_ne _ _ e]
      exact ((h.nd j hj).fr hg.fr (fun k hk => h.mx k (h.sub i hi k hk)) hg.up hX (fun k hm hd => h.dis j i hj hi e k hm hd)).up hT
  · show (updN C.nd i N' j).id = _
    by_cases e : j = i
    · subst e
      rw [updN_self]
      exact hid
    · rw [updN_ne _ _ e]
      exact h.ids j hj
  · have := h.co.fr hg.fr (fun a ha hd => (h.own a ha).2 i hi hd) (fun k hk hd => (h.vlm k hk).2.1 i hi hd)
    exact ⟨this.ra, this.rb, this.nm, this.me, this.ed, this.mw, this.mt, this.mo, this.mh, this.lg⟩
theorem Gr.cl (h : CqG w X Mc base T bl pn vl ll M Pn C) {i : Nat} (hi : i < C.n) {Mi' : Nat → Prop} (hg : Gr X (M i) w X' Mi' w') : Gr X Mc w X' (fun k => Mc k ∨ Mi' k) w' :=
  ⟨hg.fr.weak (h.sub i hi), hg.up, hg.xs, fun k hk => by
    rcases hk with hk | hk
    · exact .inl hk
    · rcases hg.ms k hk with e | e
      · exact .inl (h.sub i hi k e)
      · exact .inr e⟩
/-- what a cluster's method makes of it -/
def CqPost (X Mc : Nat → Prop) (base T : Nat) (bl : CBk → Nat) (pn : Nat → Nat) (ll : Nat) (C : CqS) (w : World) (v : Value) (e : Ending) (w' : World) : Prop :=
  e = .returned v ∧ ∃ X' Mc', Gr X Mc w X' Mc' w' ∧ CqAt w' X' Mc' base T bl pn ll C
end
end Go.Proofs.YthgbcgphkddmgaaGreat
namespace Go.Proofs.YthgbcgphkddmgaaGreat
open Go.RowKit Go.Maps
set_option linter.unusedVariables false
set_option linter.unusedSimpArgs false
set_option maxRecDepth 100000 in
set_option maxHeartbeats 4000000 in
theorem there_any (p N ca : Nat) (A : Option Addr) (n : Int) (w : World) (c0 : w.cell? ⟨p, 0, none⟩ = some (.slice A N ca)) (h1 : 1 ≤ n) (h2 : n ≤ (N : Int)) :
    Calls Tryz.prog 38 #[.pointer (some ⟨p, 0, none⟩), .int .i64 n] w fun e w' => e = .returned (.bool true) ∧ w' = w := by
  have d1 : decide (1 ≤ n) = true := decide_eq_true h1
  have d2 : decide (n ≤ (N : Int)) = true := decide_eq_true h2
  go_enter Tryz.func38, Tryz.ntmps38
  go_wp2_with fail
  go_ret
  exact ⟨rfl, rfl⟩
set_option maxRecDepth 100000 in
set_option maxHeartbeats 4000000 in
theorem at_any (p N ga ca i b : Nat) (n : Int) (w : World) (c0 : w.cell? ⟨p, 0, none⟩ = some (.slice (some ⟨ga, 0, none⟩) N ca)) (hi : i < N) (h8 : N ≤ 8) (hn : n = (i : Int) + 1) (cr : w.cell? ⟨ga, i, none⟩ = some (.pointer (some ⟨b, 0, none⟩))) :
    Calls Tryz.prog 39 #[.pointer (some ⟨p, 0, none⟩), .int .i64 n] w fun e w' => e = .returned (.pointer (some ⟨b, 0, none⟩)) ∧ w' = w := by
  have i3 : (n - 1).toNat = i := by omega
  have i4 : IntKind.i64.wrap (n - 1) = n - 1 := by rw [IntWalk.i64_in _ (by omega)]
  have i5 : (0 : Int) ≤ n - 1 := by omega
  have i6 : n - 1 < (N : Int) := by omega
  have i7 : (1 : Int) ≤ n := by omega
  clear hn
  go_enter Tryz.func39, Tryz.ntmps39
  go_wp2_with fail
  go_ret
  exact ⟨rfl, rfl⟩
theorem wayV_succ (i k : Nat) : wayV (i + 1) (k + 1) = .agg #[.int .i64 ((i : Int) + 1), .int .i64 ((k : Int) + 1)] := by
  unfold wayV
  rw [Int.natCast_add, Int.natCast_add]
  rfl
theorem und_mwe : Tryz.prog.underlying 81 = some (.map 100 97) := Tryz.underlying81
theorem und_mwl : Tryz.prog.underlying 82 = some (.map 100 115) := Tryz.underlying82
theorem zero_ep : ∀ w, (zeroValue 97).run Tryz.prog w = .ok (.pointer none) w := fun w => by kernel_rfl
theorem zero_ls : ∀ w, (zeroValue 115).run Tryz.prog w = .ok (.slice none 0 0) w := fun w => by kernel_rfl
section
variable {w : World} {X Mc : Nat → Prop} {base T : Nat} {bl : CBk → Nat} {pn : Nat → Nat} {vl : Value} {ll : Nat} {M : Nat → Nat → Prop} {Pn : Nat → Int → Nat} {C : CqS}
theorem endsG_at (bl : CBk → Nat) {n i k : Nat} (hi : i < n) (hk : k < n) (e : i ≠ k) : endsG bl n (i + 1) (k + 1) = some (.pointer (some ⟨bl (.Ed i k), 0, none⟩)) := by
  unfold endsG
  rw [if_pos ⟨by omega, by omega, by omega, by omega, by omega⟩]
  rfl
end
end Go.Proofs.YthgbcgphkddmgaaGreat
