/- An actor more. A script's runner is made; a diary is begun. An actor is spawned. -/
import Derived.Test.YtjjfglbcikaicaaGreatMG
import Derived.Deep.DeepCutAuto
import Derived.Test.YtjjfglbcikaicaaGreatMD
import Derived.Test.YtjjfglbcikaicaaGreatMF
namespace Go.Proofs.YtjjfglbcikaicaaGreat
open Go.RowKit Go.Maps
set_option linter.unusedVariables false
set_option linter.unusedSimpArgs false
theorem has_ins {N : NdS} {a : ActS} (x : Int) : ({ N with acts := insA a N.acts } : NdS).has x = (if x = a.ref then true else N.has x) := by
  by_cases e : x = a.ref
  · rw [if_pos e]
    exact has_iff.2 ⟨a, mem_insA.2 (.inl rfl), e.symm⟩
  · rw [if_neg e, Bool.eq_iff_iff, has_iff, has_iff]
    constructor
    · rintro ⟨b, hb, h⟩
      rcases mem_insA.1 hb with rfl | hb
      · exact absurd h.symm e
      · exact ⟨b, hb, h⟩
    · rintro ⟨b, hb, h⟩
      exact ⟨b, mem_insA.2 (.inr hb), h⟩
theorem no_ref {N : NdS} {r : Int} (h : N.has r = false) : ∀ b, b ∈ N.acts → b.ref ≠ r := fun b hb e => by
  have := has_iff.2 ⟨b, hb, e⟩
  rw [h] at this
  cases this
theorem NodeG.ins {w w' : World} {X M MAa : Nat → Prop} {base T p mb hb : Nat} {P : Int → Nat} {MA : Int → Nat → Prop} {ob sb : Option Nat} {N : NdS} {a : ActS} {pa b rb kb : Nat} {ib : Option Nat} (h : NodeG w X base T p mb hb P MA ob sb N) (hm : Mine M p mb hb MA ob sb N) (hMX : ∀ k, M k → X k ∧ base ≤ k) (hA : ActG w X base T MAa pa b rb kb ib a) (hn : ∀ k, MAa k → ¬ M k) (hno : N.has a.ref = false) (hf : Fr (fun k => k = mb) w w')
    (ho : OwnM w' mb (N.acts.length + 1) (fun x => if x = a.ref then some (.pointer (some ⟨pa, 0, none⟩)) else if N.has x then some (.pointer (some ⟨P x, 0, none⟩)) else none)) (hT : N.out.length + 201 * (N.acts.length + 1) ≤ T) :
    NodeG w' X base T p mb hb (fun r => if r = a.ref then pa else P r) (fun r => if r = a.ref then MAa else MA r) ob sb { N with acts := insA a N.acts } := by
  have hS : ∀ k, k = mb → X k ∧ base ≤ k := fun k hk => hk ▸ hMX mb hm.mb
  obtain ⟨a1, a2, a3, a4, a5⟩ := h.ap
  have hp : ¬ p = mb := a1
  obtain ⟨A2, c2, s1, s2⟩ := h.c2
  obtain ⟨v4, r1, r2⟩ := h.c4
  obtain ⟨v8, C, o1, o2⟩ := h.c8
  obtain ⟨v9, q1, q2, q3⟩ := h.c9
  obtain ⟨n, k1, k2⟩ := h.hm
  have hl := h.lt
  have hnr := no_ref hno
  refine ⟨hf.cell h.c0 hp, hf.cell h.c1 hp, ⟨A2, c2, hf.cell s1 hp, s2.fr hf (fun k hk => (hS k hk).2)⟩, hf.cell h.c3 hp, ⟨v4, hf.cell r1 hp, r2.fr hf (fun k hk => (hS k hk).1) (fun k hk => .inl hk)⟩, hf.cell h.c5 hp, hf.cell h.c6 hp, hf.cell h.c7 hp, ⟨v8, C, hf.cell o1 hp, o2.fr hf (fun k hk => (hS k hk).1) (fun k hk => .inl hk) (fun k hk hs => (a4 k hk).2.1 hs)⟩, ⟨v9, hf.cell q1 hp, hf.row q2 (fun k hk hs => (a5 k (q3.symm.trans hk)).2.1 hs), q3⟩,
    fun o => (hf.frozen hl.1 hp).trans (h.fz o), ?_, ⟨n, k1.fr hf (fun e => a3 e.symm), k2⟩, fun c hc => ?_, fun c d hc hd hne k hk => ?_, fun c hc k hk => ?_, h.ap, ?_⟩
  · show OwnM w' mb (insA a N.acts).length _
    rw [len_insA]
    refine ho.congr (fun x _ => ?_)
    rw [has_ins]
    by_cases e : x = a.ref
    · rw [if_pos e, if_pos e, if_pos e]; rfl
    · rw [if_neg e, if_neg e, if_neg e]
  · rcases mem_insA.1 hc with rfl | hc
    · rw [if_pos rfl, if_pos rfl]
      exact ⟨b, rb, kb, ib, hA.fr hf (fun k hk => (hS k hk).1) (fun k hk => .inl hk) (fun k hk => (hS k hk).2) (Nat.le_refl _) (fun k hk hs => hn k hk (hs ▸ hm.mb))⟩
    · rw [if_neg (hnr c hc), if_neg (hnr c hc)]
      obtain ⟨b1, rb1, kb1, ib1, hh⟩ := h.acts c hc
      exact ⟨b1, rb1, kb1, ib1, hh.fr hf (fun k hk => (hS k hk).1) (fun k hk => .inl hk) (fun k hk => (hS k hk).2) (Nat.le_refl _) (fun k hk hs => (h.own c hc k hk).2.1 hs)⟩
  · intro hk2
    rcases mem_insA.1 hc with e1 | h1
    · rw [e1, if_pos rfl] at hk
      rcases mem_insA.1 hd with e2 | h2
      · exact hne (by rw [e1, e2])
      · rw [if_neg (hnr d h2)] at hk2
        exact hn k hk (hm.act d h2 k hk2)
    · rw [if_neg (hnr c h1)] at hk
      rcases mem_insA.1 hd with e2 | h2
      · rw [e2, if_pos rfl] at hk2
        exact hn k hk2 (hm.act c h1 k hk)
      · rw [if_neg (hnr d h2)] at hk2
        exact h.disj c d h1 h2 hne k hk hk2
  · rcases mem_insA.1 hc with rfl | hc
    · rw [if_pos rfl] at hk
      have hnk := hn k hk
      exact ⟨fun e => hnk (e ▸ hm.p), fun e => hnk (e ▸ hm.mb), fun e => hnk (e ▸ hm.hb), fun e => hnk (hm.ob k e), fun e => hnk (hm.sb k e)⟩
    · rw [if_neg (hnr c hc)] at hk
      exact h.own c hc k hk
  · show N.out.length + 201 * (insA a N.acts).length ≤ T ∧ N.said.length ≤ T
    rw [len_insA]
    exact ⟨hT, h.lim.2⟩
theorem NdOk.ins {N : NdS} (h : NdOk N) {a : ActS} (ha : ActOk a) (hno : N.has a.ref = false) (hlen : N.acts.length < 60) : NdOk { N with acts := insA a N.acts } :=
  { h with
    len := by show (insA a N.acts).length ≤ 60; rw [len_insA]; omega
    srt := srt_insA h.srt (no_ref hno)
    act := fun b hb => by
      rcases mem_insA.1 hb with rfl | hb
      · exact ha
      · exact h.act b hb }
set_option maxRecDepth 100000 in
theorem NodeAt.ins {w : World} {X M MAa : Nat → Prop} {base T p : Nat} {P : Int → Nat} {N : NdS} {a : ActS} {pa b rb kb : Nat} {ib : Option Nat} (h : NodeAt w X M base T p P N) (hA : ActG w X base T MAa pa b rb kb ib a) (hok : ActOk a) (hX : ∀ k, MAa k → X k ∧ base ≤ k) (hn : ∀ k, MAa k → ¬ M k) (hno : N.has a.ref = false) (hlen : N.acts.length < 60) (hT : pot N + 201 ≤ T) :
    ∃ mb, w.cell? ⟨p, 3, none⟩ = some (.map (some mb)) ∧ ∃ w', (Instr.mapUpdate 99 (.map (some mb)) (.int .i64 a.ref) (.pointer (some ⟨pa, 0, none⟩))).run Tryz.prog w = .ok () w' ∧ Fr (fun k => k = mb) w w' ∧ M mb ∧ pa ≠ mb ∧ mb ≠ p ∧ NodeAt w' X (fun k => M k ∨ MAa k) base T p (fun r => if r = a.ref then pa else P r) { N with acts := insA a N.acts } := by
  obtain ⟨h1, h2, h3, mb, hb, MA, ob, sb, h4, h5⟩ := h
  refine ⟨mb, h4.c3, ?_⟩
  obtain ⟨w', hrun, ho, hg⟩ := OwnM.store und_actors h4.am (by have := h1.len; unfold maxLen; omega) a.ref (.pointer (some ⟨pa, 0, none⟩)) hok.ref
  have hf : Fr (fun k => k = mb) w w' := Fr.of_grown hg (fun k hk => .inl (by injection hk with hk; exact hk.symm))
  have hcond : ¬ (if N.has a.ref = true then some (Value.pointer (some ⟨P a.ref, 0, none⟩)) else none : Option Value).isSome = true := by rw [hno]; simp
  rw [if_neg hcond] at ho
  have hnb : pa ≠ mb := fun e => hn pa hA.mine.1 (e ▸ h5.mb)
  refine ⟨w', hrun, hf, h5.mb, hnb, fun e => h4.ap.1 e.symm, h1.ins hok hno hlen, fun k hk => Nat.lt_of_lt_of_le (h2 k hk) hf.size, fun k hk => by rcases hk with hk | hk; exact h3 k hk; exact hX k hk, mb, hb, _, ob, sb, h4.ins h5 h3 hA hn hno hf ho (by unfold pot at hT; omega), ⟨.inl h5.p, .inl h5.mb, .inl h5.hb, fun k hk => .inl (h5.ob k hk), fun k hk => .inl (h5.sb k hk), fun c hc k hk => ?_⟩⟩
  rcases mem_insA.1 hc with rfl | hc
  · rw [if_pos rfl] at hk
    exact .inr hk
  · rw [if_neg (no_ref hno c hc)] at hk
    exact .inl (h5.act c hc k hk)
set_option maxRecDepth 100000 in
set_option maxHeartbeats 4000000 in
theorem nadd_any {w : World} {X M MAa : Nat → Prop} {base T p : Nat} {P : Int → Nat} {N : NdS} {a : ActS} {pa b rb kb : Nat} {ib : Option Nat} (h : NodeAt w X M base T p P N) (hA : ActG w X base T MAa pa b rb kb ib a) (hok : ActOk a) (hX : ∀ k, MAa k → X k ∧ base ≤ k) (hn : ∀ k, MAa k → ¬ M k) (hno : N.has a.ref = false) (hlen : N.acts.length < 60) (hT : pot N + 201 ≤ T) :
    Calls Tryz.prog 46 #[.pointer (some ⟨p, 0, none⟩), .pointer (some ⟨pa, 0, none⟩)] w fun e w' => e = .returned (.tuple #[]) ∧ ∃ X' M', Gr X (fun k => M k ∨ MAa k) w X' M' w' ∧ NodeAt w' X' M' base T p (fun r => if r = a.ref then pa else P r) { N with acts := insA a N.acts, rows := addR N.rows a.ref } := by
  have hdr : Fr (fun _ => False) w w.drew := (Fr.refl _ w).drew
  obtain ⟨mb, c3, w1, hrun, hf1, hmb, hpam, hmp, hN1⟩ := (h.new hdr (fun _ h => h)).ins (hA.fr (X' := X) hdr (fun _ h => h.elim) (fun k hk => .inl hk) (fun _ h => h.elim) (Nat.le_refl _) (fun _ _ h => h)) hok hX hn hno hlen hT
  have c3' : w.cell? ⟨p, 3, none⟩ = some (.map (some mb)) := c3
  have a1 := hA.a1
  have d1 : w1.cell? ⟨pa, 1, none⟩ = some (.int .i64 a.ref) := hf1.cell (show w.drew.cell? ⟨pa, 1, none⟩ = _ from a1) hpam
  obtain ⟨A, c, c4, hr⟩ := hN1.rows
  have hf2 : Fr (fun _ => False) w1 w1.drew := (Fr.refl _ w1).drew
  have HR := Lib.hid (hr.new hf2)
  have HNW := Lib.hid (hN1.new hf2 (fun _ h => h))
  have hokr := h.ok.rows
  have HOK := Lib.hid (hokr.add hok.ref)
  have HOK0 := Lib.hid hokr
  have HF1 := Lib.hid (show Fr M w w1 from (hdr.weak (fun _ h => h.elim)).trans' (hf1.weak (fun k hk => hk ▸ hmb)))
  clear h hA hok hX hn hno hlen hT hdr hf1 hN1 hr hf2 hokr c3
  go_enter Tryz.func46, Tryz.ntmps46
  go_wp2_with fail
  go_region
  all_goals
    go_wp2_with fail
    go_region_with (first
      | (go_at_call 77; refine (ladd_any X _ N.rows a.ref w1.drew HR.out HOK0.out.ok HNW.out.xlt).mono ?_; rintro e w2 ⟨A1, n1, c1, y, rfl, hb1, hl1⟩; have HL1 := Lib.hid hl1; have HB1 := Lib.hid hb1; clear hl1 hb1)
      | (go_at_call 60; refine (change_nd (HNW.out.below HB1.out) HL1.out HOK.out).mono ?_; rintro e w3 ⟨rfl, X', M', hg, hn⟩; have HG := Lib.hid hg; have HN2 := Lib.hid hn; clear hg hn))
    all_goals
      go_wp2_with fail
      refine bodyPost_end (results_none rfl _ _ _) rfl ⟨rfl, X', M', ?_, HN2.out⟩
      refine Gr.trans (X1 := X) (M1 := fun k => M k ∨ MAa k) (w1 := w1) ⟨HF1.out.weak (fun k hk => .inl hk), fun _ h => h, fun _ h => .inl h, fun _ h => .inl h⟩ ?_
      exact (Gr.new (((Fr.refl _ w1).drew).trans' (Fr.of_below HB1.out))).trans HG.out
end Go.Proofs.YtjjfglbcikaicaaGreat
namespace Go.Proofs.YtjjfglbcikaicaaGreat
open Go.RowKit
set_option linter.unusedVariables false
set_option linter.unusedSimpArgs false
theorem makeN_one (scr : List (List Stp)) (b : UInt8) : makeN scr ⟨#[b]⟩ = if b.toNat < 48 ∨ 57 < b.toNat then none else scr[b.toNat - 48]? := by
  unfold makeN
  show (if b < 48 ∨ 57 < b then none else scr[b.toNat - 48]?) = _
  by_cases h : b < 48 ∨ 57 < b
  · rw [if_pos h, if_pos (by rcases h with h | h; exact .inl h; exact .inr h)]
  · rw [if_neg h, if_neg (by intro h2; exact h (by rcases h2 with h2 | h2; exact .inl h2; exact .inr h2))]
def runC (A : Option Addr) (n c : Nat) (pos : Int) (kid self : Int) : List Value := [.slice A n c, .int .i64 pos, .int .i64 kid, .int .i64 self, .bool false, .bool false, .bool false, .int .i64 0, .int .i64 0, .string ⟨#[]⟩, .int .i64 0, .int .i64 0, .string ⟨#[]⟩, .slice none 0 0, .slice none 0 0]
def newR (pos : Nat) (kid self : Int) : RunS := ⟨pos, kid, self, false, false, false, 0, 0, ⟨#[]⟩⟩
def MakePost (scr : List (List Stp)) (base : Nat) (b : UInt8) (self : Int) (w : World) (e : Ending) (w' : World) : Prop :=
  (makeN scr ⟨#[b]⟩ = none ∧ e = .returned (.tuple #[.nilIface, .int .i64 4]) ∧ w' = w) ∨
  (∃ l A c vo, makeN scr ⟨#[b]⟩ = some l ∧ l ∈ scr ∧ ScrAt w base A c l vo ∧ e = .returned (.tuple #[.iface 236 (.pointer (some ⟨w.heap.size, 0, none⟩)), .int .i64 0]) ∧ w' = w.alloc (.cells (runC A l.length c 0 0 self).toArray 238))
set_option maxRecDepth 100000 in
set_option maxHeartbeats 4000000 in
theorem make_nil (scr : List (List Stp)) (base c : Nat) (A : Option Addr) (b : UInt8) (self : Int) (w : World) (h : ScrsAt w base A c scr) (hb : base ≤ w.heap.size) :
    Calls Tryz.prog 155 #[.slice A scr.length c, .string ⟨#[b]⟩, .slice none 0 0, .int .i64 self] w (MakePost scr base b self w) := by
  have hM := makeN_one scr b
  obtain ⟨h1, h2, h3, h4, h5⟩ := h
  have H5 := Lib.hid h5
  have hb256 : b.toNat < 256 := b.toNat_lt
  obtain ⟨n, hn⟩ : ∃ n : Nat, b.toNat = n := ⟨_, rfl⟩
  have hbn : ((⟨#[b]⟩ : ByteArray)[0]'(show 0 < 1 by decide)).toNat = n := hn
  rw [hn] at hM hb256
  by_cases g1 : n < 48
  · have HE := Lib.hid (hM.trans (if_pos (.inl g1)))
    have e1 : decide ((n : Int) < 48) = true := decide_eq_true (by omega)
    clear hM h4 h5 hn
    go_enter Tryz.func155, Tryz.ntmps155
    go_wp2_with fail
    exact bodyPost_ret (v := .tuple #[.nilIface, .int .i64 4]) (by simp [results, Tryz.results155, go_sem]) rfl (.inl ⟨HE.out, rfl, rfl⟩)
  · obtain ⟨m, rfl⟩ : ∃ m, n = m + 48 := ⟨n - 48, by omega⟩
    have hmod : (m : Int) % 256 = m := by omega
    have e1 : decide (((m : Int) + 48) < 48) = false := decide_eq_false (by omega)
    by_cases g3 : scr.length ≤ m
    · have HE := Lib.hid (show makeN scr ⟨#[b]⟩ = none by
        rw [hM]
        split
        · rfl
        · rw [Nat.add_sub_cancel, List.getElem?_eq_none g3])
      have e2 : decide ((scr.length : Int) ≤ (m : Int)) = true := decide_eq_true (by omega)
      clear hM h4 h5 hn
      go_enter Tryz.func155, Tryz.ntmps155
      go_wp2_with fail
      exact bodyPost_ret (v := .tuple #[.nilIface, .int .i64 4]) (by simp [results, Tryz.results155, go_sem]) rfl (.inl ⟨HE.out, rfl, rfl⟩)
    · have e2 : decide ((scr.length : Int) ≤ (m : Int)) = false := decide_eq_false (by omega)
      by_cases g4 : 57 < m + 48
      · have HE := Lib.hid (hM.trans (if_pos (.inr g4)))
        have e3 : decide (57 < ((m : Int) + 48)) = true := decide_eq_true (by omega)
        clear hM h4 h5 hn
        go_enter Tryz.func155, Tryz.ntmps155
        go_wp2_with fail
        exact bodyPost_ret (v := .tuple #[.nilIface, .int .i64 4]) (by simp [results, Tryz.results155, go_sem]) rfl (.inl ⟨HE.out, rfl, rfl⟩)
      · have e3 : decide (57 < ((m : Int) + 48)) = false := decide_eq_false (by omega)
        obtain ⟨bs, off, A', c', vo, rfl, hbs, hcell, hscr⟩ := h5 m (by omega)
        have hget : scr[m]? = some (scr.getD m []) := by rw [List.getD_eq_getElem?_getD, List.getElem?_eq_getElem (by omega)]; rfl
        have HE := Lib.hid (show makeN scr ⟨#[b]⟩ = some (scr.getD m []) by
          rw [hM, if_neg (by omega), Nat.add_sub_cancel, hget])
        have hmem : scr.getD m [] ∈ scr := List.mem_of_getElem? hget
        have HS := Lib.hid hscr
        have hlt : (m : Int) < (scr.length : Int) := by omega
        have h0m : (0 : Int) ≤ (m : Int) := by omega
        generalize scr.getD m [] = l at *
        clear hM h4 h5 hn hget hscr
        go_enter Tryz.func155, Tryz.ntmps155
        go_wp2_with fail
        go_loopw [11, 12, 54] (fun _ _ i wr => i = .int .i64 0 ∧ wr = _) (fun _ _ _ _ => 0)
        case atStart => exact ⟨rfl, rfl⟩
        case round =>
          obtain ⟨rfl, rfl⟩ := hrel
          go_wp2_with fail
          exact bodyPost_ret (v := .tuple #[.iface 236 (.pointer (some ⟨w.heap.size, 0, none⟩)), .int .i64 0]) (by simp [results, Tryz.results155, go_sem]) rfl (.inr ⟨l, A', c', vo, HE.out, hmem, HS.out, rfl, rfl⟩)
set_option maxRecDepth 100000 in
set_option maxHeartbeats 400000 in
theorem veach_nil (f : Value) (w : World) : Calls Tryz.prog 93 #[.slice none 0 0, f] w fun e w' => e = .returned (.slice none 0 0) ∧ w' = w := by
  go_enter Tryz.func93, Tryz.ntmps93
  go_wp2_with fail
  go_loopw [5, 7, 10] (fun v _ i wr => v = .slice none 0 0 ∧ i = .int .i64 0 ∧ wr = w) (fun _ _ _ _ => 0)
  case atStart => exact ⟨rfl, rfl, rfl⟩
  case round =>
    obtain ⟨rfl, rfl, rfl⟩ := hrel
    go_wp2_with fail
    go_ret
    exact ⟨rfl, rfl⟩
set_option maxRecDepth 100000 in
set_option maxHeartbeats 400000 in
theorem values_nil (w : World) : Calls Tryz.prog 76 #[.slice none 0 0] w fun e w' => e = .returned (.slice none 0 0) ∧ w' = w := by
  go_enter Tryz.func76, Tryz.ntmps76
  go_wp2_with fail
  refine (veach_nil _ w).mono ?_
  rintro e w1 ⟨rfl, rfl⟩
  go_wp2_with fail
  go_ret
  exact ⟨rfl, rfl⟩
theorem meth_make (v : Value) : ∀ w, Sem.run Tryz.prog (method 341 25 v "Make") w = .ok (155, v) w := fun _ => by kernel_rfl
/-- a diary begun without a state -/
def DnewPost (X : Nat → Prop) (scr : List (List Stp)) (base T : Nat) (b : UInt8) (self : Int) (w : World) (e : Ending) (w' : World) : Prop :=
  (makeN scr ⟨#[b]⟩ = none ∧ e = .returned (.tuple #[.pointer none, .int .i64 4]) ∧ w' = w) ∨
  (∃ l, makeN scr ⟨#[b]⟩ = some l ∧ l ∈ scr ∧ e = .returned (.tuple #[.pointer (some ⟨w.heap.size + 1, 0, none⟩), .int .i64 0]) ∧ w'.heap.size = w.heap.size + 2 ∧ Fr (fun _ => False) w w' ∧ DiaAt w' X base T (w.heap.size + 1) w.heap.size none (newD ⟨#[b]⟩ l 0 0 self))
set_option maxRecDepth 100000 in
set_option maxHeartbeats 4000000 in
theorem dnew_nil (X : Nat → Prop) (scr : List (List Stp)) (base T c : Nat) (A : Option Addr) (b : UInt8) (self : Int) (w : World) (h : ScrsAt w base A c scr) (hb : base ≤ w.heap.size) :
    Calls Tryz.prog 44 #[.iface 25 (.slice A scr.length c), .string ⟨#[b]⟩, .slice none 0 0, .int .i64 self] w (DnewPost X scr base T b self w) := by
  have HM := Lib.hid (make_nil scr base c A b self w h hb)
  have hm := meth_make (.slice A scr.length c)
  clear h
  go_enter Tryz.func44, Tryz.ntmps44
  go_wp2_with fail
  refine HM.out.mono ?_
  rintro e w1 (⟨hn, rfl, rfl⟩ | ⟨l, A', c', vo, hn, hl, hs, rfl, rfl⟩)
  · have HN := Lib.hid hn
    clear hn
    go_wp2_with fail
    exact bodyPost_ret (v := .tuple #[.pointer none, .int .i64 4]) (by simp [results, Tryz.results44, go_sem]) rfl (.inl ⟨HN.out, rfl, rfl⟩)
  · have HN := Lib.hid hn
    have HL := Lib.hid hl
    have HS := Lib.hid hs
    clear hn hl hs
    go_wp2_with fail
    refine (values_nil _).mono ?_
    rintro e w2 ⟨rfl, rfl⟩
    go_wp2_with fail
    refine bodyPost_ret (v := .tuple #[.pointer (some ⟨w.heap.size + 1, 0, none⟩), .int .i64 0]) (by simp [results, Tryz.results44, go_sem]) rfl (.inr ⟨l, HN.out, HL.out, rfl, by simp, ((Fr.refl _ w).alloc _).alloc _, ?_⟩)
    have hf : Fr (fun _ => False) w ((w.alloc (.cells (runC A' l.length c' 0 0 self).toArray 238)).alloc (.cells #[.iface 236 (.pointer (some ⟨w.heap.size, 0, none⟩)), .string ⟨#[b]⟩, .slice none 0 0, .slice none 0 0, .int .i64 0, .int .i64 0, .string ⟨#[]⟩, .int .i64 0, .int .i64 0, .string ⟨#[]⟩, .slice none 0 0, .slice none 0 0] 154)) := ((Fr.refl _ w).alloc _).alloc _
    have hc : ∀ j u, (runC A' l.length c' 0 0 self)[j]? = some u → ((w.alloc (.cells (runC A' l.length c' 0 0 self).toArray 238)).alloc (.cells #[.iface 236 (.pointer (some ⟨w.heap.size, 0, none⟩)), .string ⟨#[b]⟩, .slice none 0 0, .slice none 0 0, .int .i64 0, .int .i64 0, .string ⟨#[]⟩, .int .i64 0, .int .i64 0, .string ⟨#[]⟩, .slice none 0 0, .slice none 0 0] 154)).cell? ⟨w.heap.size, j, none⟩ = some u := fun j u hj => by
      rw [World.cell?_alloc_lt _ _ ⟨w.heap.size, j, none⟩ (by simp)]
      have := cell_newL w (runC A' l.length c' 0 0 self) 238 _ rfl j u hj
      rw [Addr.add_lit, Nat.zero_add] at this
      exact this
    have hd : ∀ j u, ([.iface 236 (.pointer (some ⟨w.heap.size, 0, none⟩)), .string ⟨#[b]⟩, .slice none 0 0, .slice none 0 0, .int .i64 0, .int .i64 0, .string ⟨#[]⟩, .int .i64 0, .int .i64 0, .string ⟨#[]⟩, .slice none 0 0, .slice none 0 0] : List Value)[j]? = some u → ((w.alloc (.cells (runC A' l.length c' 0 0 self).toArray 238)).alloc (.cells #[.iface 236 (.pointer (some ⟨w.heap.size, 0, none⟩)), .string ⟨#[b]⟩, .slice none 0 0, .slice none 0 0, .int .i64 0, .int .i64 0, .string ⟨#[]⟩, .int .i64 0, .int .i64 0, .string ⟨#[]⟩, .slice none 0 0, .slice none 0 0] 154)).cell? ⟨w.heap.size + 1, j, none⟩ = some u := fun j u hj => by
      have := cell_newL (w.alloc (.cells (runC A' l.length c' 0 0 self).toArray 238)) _ 154 (w.heap.size + 1) (by simp) j u hj
      rw [Addr.add_lit, Nat.zero_add] at this
      exact this
    exact {
      run := ⟨A', c', vo, HS.out.fr hf (fun _ h => h.elim), ⟨hc 0 _ rfl, hc 1 _ rfl, hc 2 _ rfl, hc 3 _ rfl, hc 4 _ rfl, hc 5 _ rfl, hc 6 _ rfl, hc 7 _ rfl, hc 8 _ rfl, hc 9 _ rfl, hc 10 _ rfl, hc 11 _ rfl, hc 12 _ rfl, hc 13 _ rfl, hc 14 _ rfl, fun o => by simp [go_sem]⟩⟩
      c0 := hd 0 _ rfl
      c1 := hd 1 _ rfl
      c2 := ⟨none, 0, 0, hd 2 _ rfl, fun e => absurd e (show ¬ (0 : Int) = 7 by decide)⟩
      c3 := ⟨none, 0, 0, [], hd 3 _ rfl, World.ownsRow_nil _ _ _ _, Nat.zero_le _, rfl, fun e => absurd e (show ¬ (0 : Int) = 7 by decide)⟩
      c4 := hd 4 _ rfl
      c5 := hd 5 _ rfl
      c6 := hd 6 _ rfl
      c7 := hd 7 _ rfl
      c8 := hd 8 _ rfl
      c9 := hd 9 _ rfl
      c10 := hd 10 _ rfl
      c11 := hd 11 _ rfl
      fz := fun o => by simp [go_sem]
      nr := by omega
      ni := fun k hk => by cases hk
      lb := ⟨by omega, hb⟩
      wt := fun e => absurd e (show ¬ (0 : Int) = 7 by decide)
      pl := ⟨(fun e => by cases e), (fun e => by cases e)⟩ }
end Go.Proofs.YtjjfglbcikaicaaGreat
namespace Go.Proofs.YtjjfglbcikaicaaGreat
open Go.RowKit Go.Maps
set_option linter.unusedVariables false
set_option linter.unusedSimpArgs false
theorem spawnN_ok {N : NdS} {b : UInt8} {l : List Stp} (h1 : makeN N.scr ⟨#[b]⟩ = some l) (h2 : N.has (N.id * 1000 + N.spawned + 1) = false) (h3 : ¬ (60 ≤ N.acts.length ∨ 999 ≤ N.spawned)) :
    spawnN N ⟨#[b]⟩ = ({ N with acts := insA ⟨N.id * 1000 + N.spawned + 1, newD ⟨#[b]⟩ l 0 0 (N.id * 1000 + N.spawned + 1), [], 0, false, 0, fun _ => false⟩ N.acts, rows := addR N.rows (N.id * 1000 + N.spawned + 1), spawned := N.spawned + 1 }, N.id * 1000 + N.spawned + 1, 0) := by
  unfold spawnN
  dsimp only
  rw [h1]
  dsimp only
  rw [if_neg (by rw [h2]; decide), if_neg h3]
/-- what Spawn makes of a node: whoever was there stays where it was -/
def SpawnPost (X M : Nat → Prop) (base T p : Nat) (P : Int → Nat) (N N' : NdS) (w : World) (v : Value) (e : Ending) (w' : World) : Prop :=
  ∃ P', (∀ x, N.has x = true → P' x = P x) ∧ NdPost X M base T p P' N' w v e w'
set_option maxRecDepth 100000 in
theorem NodeAt.mlen {w : World} {X M : Nat → Prop} {base T p : Nat} {P : Int → Nat} {N : NdS} (h : NodeAt w X M base T p P N) {mb : Nat} (hc : w.cell? ⟨p, 3, none⟩ = some (.map (some mb))) : ∀ ty W, Fr (fun _ => False) w W → (Builtin.len_ #[99] ty #[.map (some mb)]).run Tryz.prog W = .ok (.int .i64 (N.acts.length : Int)) W := by
  obtain ⟨_, _, _, mb', _, _, _, _, h4, _⟩ := h
  have := h4.c3
  rw [hc] at this
  injection this with this
  injection this with this
  injection this with this
  subst this
  exact fun ty W hf => (h4.am.fr hf (fun h => h)).len und_actors ty
theorem NodeAt.set6 {w : World} {X M : Nat → Prop} {base T p : Nat} {P : Int → Nat} {N : NdS} (h : NodeAt w X M base T p P N) {k' : Nat} (hk : k' ≤ 999) {i : Int} (hi : i = (k' : Int)) : NodeAt (w.setCell ⟨p, 6, none⟩ (.int .i64 i)) X M base T p P { N with spawned := k' } := by
  obtain ⟨h1, h2, h3, mb, hb, MA, ob, sb, h4, h5⟩ := h
  exact ⟨{ h1 with spawned := hk }, fun k hk => by simpa using h2 k hk, h3, mb, hb, MA, ob, sb, h4.set6 (h3 p h5.p) hi, h5.p, h5.mb, h5.hb, h5.ob, h5.sb, h5.act⟩
theorem mkRefs2 : ∀ w, (Instr.makeMap 108 none).run Tryz.prog w = .ok (.map (some w.heap.size)) (w.alloc (.map #[] 0)) := fun w => by kernel_rfl
set_option maxRecDepth 100000 in
set_option maxHeartbeats 8000000 in
theorem spawn_any {w : World} {X M : Nat → Prop} {base T p : Nat} {P : Int → Nat} {N : NdS} (b : UInt8) (h : NodeAt w X M base T p P N) (hT : pot N + 201 ≤ T) (hT2 : T ≤ 1000000000000) :
    Calls Tryz.prog 16 #[.pointer (some ⟨p, 0, none⟩), .string ⟨#[b]⟩, .slice none 0 0] w (SpawnPost X M base T p P N (spawnN N ⟨#[b]⟩).1 w (.tuple #[.int .i64 (spawnN N ⟨#[b]⟩).2.1, .int .i64 (spawnN N ⟨#[b]⟩).2.2])) := by
  have hok := h.ok
  have hid := hok.id
  have hsp := hok.spawned
  have hln := hok.len
  have HN := Lib.hid h
  have hplt := h.p_lt
  have hlb : base ≤ w.heap.size := by have := h.pM.2.2; omega
  obtain ⟨As, cs, c2, hscr⟩ : ∃ A c, w.cell? ⟨p, 2, none⟩ = some (.iface _ (.slice A N.scr.length c)) ∧ ScrsAt w base A c N.scr := by
    obtain ⟨_, _, _, _, _, _, _, _, h4, _⟩ := h
    exact h4.c2
  have HSCR := Lib.hid (fun (W : World) (hf : Fr (fun _ => False) w W) => dnew_nil X N.scr base T cs As b (N.id * 1000 + N.spawned + 1) W (hscr.fr hf (fun _ h => h.elim)) (by have := hf.size; omega))
  have c0 : w.cell? ⟨p, 0, none⟩ = some (.int .i64 N.id) := by
    obtain ⟨_, _, _, _, _, _, _, _, h4, _⟩ := h
    exact h4.c0
  have c6 : w.cell? ⟨p, 6, none⟩ = some (.int .i64 (N.spawned : Int)) := by
    obtain ⟨_, _, _, _, _, _, _, _, h4, _⟩ := h
    exact h4.c6
  have fz : ∀ o, w.frozen? ⟨p, o, none⟩ = false := by
    obtain ⟨_, _, _, _, _, _, _, _, h4, _⟩ := h
    exact h4.fz
  have HOK := Lib.hid hok
  have HT := Lib.hid (And.intro hT hT2)
  obtain ⟨rf, hrf⟩ : ∃ rf, N.id * 1000 + N.spawned + 1 = rf := ⟨_, rfl⟩
  have hrw : Wf rf := Wf.of (by omega) (by omega)
  have HRW := Lib.hid hrw
  obtain ⟨mb, c3, hmb, _, hlk1, hlk2⟩ := h.look
  have c3S := Lib.hid c3
  have HK2 := Lib.hid (fun hn => hlk2 rf hrw hn)
  have HK1 := Lib.hid hlk1
  have HRF := Lib.hid hrf
  have i1 : IntKind.i64.wrap (N.id * 1000) = N.id * 1000 := by rw [IntWalk.i64_in _ ⟨by omega, by omega⟩]
  have i2 : IntKind.i64.wrap (N.id * 1000 + (N.spawned : Int)) = N.id * 1000 + N.spawned := by rw [IntWalk.i64_in _ ⟨by omega, by omega⟩]
  have i3 : IntKind.i64.wrap (N.id * 1000 + (N.spawned : Int) + 1) = rf := by rw [IntWalk.i64_in _ ⟨by omega, by omega⟩]; exact hrf
  clear h hok hscr hlk1 hlk2 hT hT2 hrw hrf
  go_enter Tryz.func16, Tryz.ntmps16
  go_wp2_with fail
  go_region
  all_goals
    go_wp2_with fail
    rw [HRF.out] at HSCR
    refine (HSCR.out w.drew ((Fr.refl _ w).drew)).mono ?_
    rintro e w1 (⟨hn, rfl, rfl⟩ | ⟨l, hn, hl, rfl, hz1, hf1, hd⟩)
    · have HE := Lib.hid (show spawnN N ⟨#[b]⟩ = (N, 0, 4) by unfold spawnN; dsimp only; rw [hn])
      clear hn
      go_wp2_with fail
      refine bodyPost_ret (v := .tuple #[.int .i64 0, .int .i64 4]) (by simp [results, Tryz.results16, go_sem]) rfl ?_
      rw [HE.out]
      exact ⟨P, fun _ _ => rfl, rfl, X, M, Gr.new ((Fr.refl _ w).drew), HN.out.new ((Fr.refl (fun _ => False) w).drew) (fun _ h => h)⟩
    · have HNN := Lib.hid hn
      have HL := Lib.hid hl
      have HF1 := Lib.hid (show Fr (fun _ => False) w w1 from ((Fr.refl _ w).drew).trans' hf1)
      have HDI := Lib.hid hd
      have HZ1 := Lib.hid (show w1.heap.size = w.heap.size + 2 from hz1)
      have hz1' : w.heap.size < w1.heap.size := by rw [HZ1.out]; omega
      have g0 := HF1.out.cell c0 (fun h => h)
      have g3 := HF1.out.cell c3 (fun h => h)
      have g6 := HF1.out.cell c6 (fun h => h)
      have gf : ∀ o, w1.frozen? ⟨p, o, none⟩ = false := fun o => (HF1.out.frozen hplt (fun h => h)).trans (fz o)
      have hpw1 : p < w1.heap.size := by omega
      clear hn hl hf1 hd hz1 HSCR c0 c2 c3 c6 fz
      rcases hhas : N.has rf with _ | _
      · have hlk := HK2.out hhas w1 (HF1.out.weak (fun _ h => h.elim))
        have HHAS := Lib.hid hhas
        have hln1 := HN.out.mlen c3S.out
        have hlen1 : ∀ ty, (Builtin.len_ #[99] ty #[.map (some mb)]).run Tryz.prog w1 = .ok (.int .i64 (N.acts.length : Int)) w1 := fun ty => hln1 ty w1 HF1.out
        clear hhas hln1
        by_cases hfull : 60 ≤ N.acts.length
        · have HE := Lib.hid (show spawnN N ⟨#[b]⟩ = (N, 0, 6) by unfold spawnN; dsimp only; rw [HNN.out]; dsimp only; rw [HRF.out, if_neg (by rw [HHAS.out]; decide), if_pos (.inl hfull)])
          have e1 : decide ((60 : Int) ≤ (N.acts.length : Int)) = true := decide_eq_true (by omega)
          clear hfull
          go_wp2_with fail
          refine bodyPost_ret (v := .tuple #[.int .i64 0, .int .i64 6]) (by simp [results, Tryz.results16, go_sem]) rfl ?_
          rw [HE.out]
          exact ⟨P, fun _ _ => rfl, rfl, X, M, Gr.new HF1.out, HN.out.new HF1.out (fun _ h => h)⟩
        · have e1 : decide ((60 : Int) ≤ (N.acts.length : Int)) = false := decide_eq_false (by omega)
          by_cases hsp9 : 999 ≤ N.spawned
          · have HE := Lib.hid (show spawnN N ⟨#[b]⟩ = (N, 0, 6) by unfold spawnN; dsimp only; rw [HNN.out]; dsimp only; rw [HRF.out, if_neg (by rw [HHAS.out]; decide), if_pos (.inr hsp9)])
            have e2 : decide ((999 : Int) ≤ (N.spawned : Int)) = true := decide_eq_true (by omega)
            clear hsp9
            go_wp2_with fail
            refine bodyPost_ret (v := .tuple #[.int .i64 0, .int .i64 6]) (by simp [results, Tryz.results16, go_sem]) rfl ?_
            rw [HE.out]
            exact ⟨P, fun _ _ => rfl, rfl, X, M, Gr.new HF1.out, HN.out.new HF1.out (fun _ h => h)⟩
          · have e2 : decide ((999 : Int) ≤ (N.spawned : Int)) = false := decide_eq_false (by omega)
            have HE := Lib.hid (show spawnN N ⟨#[b]⟩ = _ from spawnN_ok HNN.out (by rw [HRF.out]; exact HHAS.out) (fun h => by rcases h with h | h; exact hfull h; exact hsp9 h))
            have hmk := mkRefs2
            have i4 : IntKind.i64.wrap ((N.spawned : Int) + 1) = ((N.spawned + 1 : Nat) : Int) := by rw [IntWalk.i64_in _ ⟨by omega, by omega⟩]; omega
            have HLT := Lib.hid (show N.acts.length < 60 ∧ N.spawned + 1 ≤ 999 from ⟨by omega, by omega⟩)
            clear hfull hsp9
            go_wp2_with fail
            go_loopw [13, 69] (fun _ i wr => i = .int .i64 0 ∧ wr = _) (fun _ _ _ => 0)
            case atStart => exact ⟨rfl, rfl⟩
            case round =>
              obtain ⟨rfl, rfl⟩ := hrel
              go_wp2_with fail
              obtain ⟨W3, hW3⟩ : ∃ W3, W3 = ((w1.setCell ⟨p, 6, none⟩ (.int .i64 ((N.spawned : Int) + 1))).alloc (.map #[] 0)).alloc (.cells #[.pointer (some ⟨w.heap.size + 1, 0, none⟩), .int .i64 rf, .slice none 0 0, .int .i64 0, .bool false, .int .i64 0, .map (some w1.heap.size)] 112) := ⟨_, rfl⟩
              rw [← hW3]
              have hN1 := (HN.out.fr (X' := fun k => X k ∨ k = w.heap.size ∨ k = w.heap.size + 1) HF1.out (fun k hk => hk.elim) (fun k hk => .inl hk) (fun k hk => by rcases hk with h | h | h; exact .inl h; exact .inr ⟨by omega, by have := HZ1.out; omega⟩; exact .inr ⟨by omega, by have := HZ1.out; omega⟩) (fun _ _ h => h)).set6 (k' := N.spawned + 1) HLT.out.2 (i := (N.spawned : Int) + 1) (by omega)
              have hzz := HZ1.out
              have hz3 : W3.heap.size = w1.heap.size + 2 := by rw [hW3]; simp
              have hfa : Fr (fun _ => False) (w1.setCell ⟨p, 6, none⟩ (.int .i64 ((N.spawned : Int) + 1))) W3 := by rw [hW3]; exact ((Fr.refl _ _).alloc _).alloc _
              have hfb : Fr (fun k => k = p) w1 W3 := by rw [hW3]; (repeat' first | with_reducible exact Fr.refl (fun k => k = _) _ | (with_reducible refine Fr.setAt ?_ _) | with_reducible refine Fr.alloc ?_ _ | with_reducible refine Fr.drewN ?_ _ | with_reducible refine Fr.drew ?_)
              have hN3 : NodeAt W3 (fun k => X k ∨ k = w.heap.size ∨ k = w.heap.size + 1 ∨ k = w1.heap.size ∨ k = w1.heap.size + 1) M base T p P { N with spawned := N.spawned + 1 } := by
                refine hN1.fr hfa (fun k hk => hk.elim) (fun k hk => ?_) (fun k hk => ?_) (fun _ _ h => h)
                · rcases hk with h | h | h
                  · exact .inl h
                  · exact .inr (.inl h)
                  · exact .inr (.inr (.inl h))
                · have e9 : (w1.setCell ⟨p, 6, none⟩ (.int .i64 ((N.spawned : Int) + 1))).heap.size = w1.heap.size := by simp
                  rcases hk with h | h | h | h | h
                  · exact .inl (.inl h)
                  · exact .inl (.inr (.inl h))
                  · exact .inl (.inr (.inr h))
                  · exact .inr ⟨by omega, by omega⟩
                  · exact .inr ⟨by omega, by omega⟩
              have hA3 : ActG W3 (fun k => X k ∨ k = w.heap.size ∨ k = w.heap.size + 1 ∨ k = w1.heap.size ∨ k = w1.heap.size + 1) base T (fun k => k = w.heap.size ∨ k = w.heap.size + 1 ∨ k = w1.heap.size ∨ k = w1.heap.size + 1) (w1.heap.size + 1) (w.heap.size + 1) w.heap.size w1.heap.size none ⟨rf, newD ⟨#[b]⟩ l 0 0 rf, [], 0, false, 0, fun _ => false⟩ := by
                have hcell : ∀ j u, ([.pointer (some ⟨w.heap.size + 1, 0, none⟩), .int .i64 rf, .slice none 0 0, .int .i64 0, .bool false, .int .i64 0, .map (some w1.heap.size)] : List Value)[j]? = some u → W3.cell? ⟨w1.heap.size + 1, j, none⟩ = some u := fun j u hj => by
                  rw [hW3]
                  have := cell_newL ((w1.setCell ⟨p, 6, none⟩ (.int .i64 ((N.spawned : Int) + 1))).alloc (.map #[] 0)) _ 112 (w1.heap.size + 1) (by simp) j u hj
                  rw [Addr.add_lit, Nat.zero_add] at this
                  exact this
                have hmap : OwnM W3 w1.heap.size 0 (fun _ => none) := by
                  have h0 := OwnM.made (w1.setCell ⟨p, 6, none⟩ (.int .i64 ((N.spawned : Int) + 1)))
                  have h1 : OwnM ((w1.setCell ⟨p, 6, none⟩ (.int .i64 ((N.spawned : Int) + 1))).alloc (.map #[] 0)) w1.heap.size 0 (fun _ => none) := by simpa using h0
                  rw [hW3]
                  exact h1.fr (S := fun _ => False) ((Fr.refl _ _).alloc _) (fun h => h)
                exact {
                  dia := (HDI.out.anyX (by show ¬ (0 : Int) = 7; decide)).fr hfb (fun k hk => .inl (hk ▸ HN.out.pM.2.1)) (fun k hk => .inl hk) (fun k hk => hk ▸ HN.out.pM.2.2) (Nat.le_refl _) (fun e => by have e' : w.heap.size + 1 = p := e; omega) (fun e => by have e' : w.heap.size = p := e; omega) (fun k hk => by cases hk)
                  a0 := hcell 0 _ rfl
                  a1 := hcell 1 _ rfl
                  a2 := ⟨none, 0, hcell 2 _ rfl, Nat.le_refl _, by omega, fun h => by simp at h⟩
                  a3 := hcell 3 _ rfl
                  a4 := hcell 4 _ rfl
                  a5 := hcell 5 _ rfl
                  a6 := hcell 6 _ rfl
                  kn := ⟨0, hmap.congr (fun x _ => rfl), Nat.zero_le _⟩
                  fz := fun o => by rw [hW3]; simp [go_sem]
                  mine := ⟨.inr (.inr (.inr rfl)), .inr (.inl rfl), .inl rfl, .inr (.inr (.inl rfl)), fun k hk => by cases hk⟩
                  ap := ⟨by omega, by omega, by omega, by omega, by omega, fun k hk => by cases hk⟩
                  lbp := ⟨by omega, by omega⟩ }
              have hpw3 : p < W3.heap.size := by omega
              have HW3F := Lib.hid (show Fr M w W3 from (HF1.out.weak (fun _ h => h.elim)).trans' (hfb.weak (fun k hk => hk ▸ HN.out.pM.1)))
              have hw0 : Wf 0 := Wf.of (by decide) (by decide)
              have hact : ActOk ⟨rf, newD ⟨#[b]⟩ l 0 0 rf, [], 0, false, 0, fun _ => false⟩ := ⟨⟨by simp, by simp, fun x hx => by simp at hx⟩, HRW.out, hw0, rfl, HOK.out.scr l HL.out, (fun e => by cases e), hw0, (fun e => by cases e), (fun e => by cases e)⟩
              have HCALL := Lib.hid (nadd_any hN3 hA3 hact (fun k hk => ⟨.inr hk, by rcases hk with h | h | h | h <;> omega⟩) (fun k hk hm => by have := HN.out.xlt k (HN.out.2.2.1 k hm).1; rcases hk with h | h | h | h <;> omega) HHAS.out HLT.out.1 HT.out.1)
              have HZ3 := Lib.hid (And.intro hz3 hzz)
              clear hN1 hfa hfb hN3 hA3 hact hz3 hzz hW3
              refine HCALL.out.mono ?_
              rintro e w4 ⟨rfl, X4, M4, hg4, hn4⟩
              have HG4 := Lib.hid hg4
              have HN4 := Lib.hid hn4
              clear hg4 hn4 HCALL
              go_wp2_with fail
              refine bodyPost_ret (v := .tuple #[.int .i64 rf, .int .i64 0]) (by simp [results, Tryz.results16, go_sem]) rfl ?_
              rw [HE.out, HRF.out]
              obtain ⟨z1, z2⟩ := HZ3.out
              refine ⟨_, fun x hx => if_neg (fun e => by rw [e, HHAS.out] at hx; cases hx), rfl, X4, M4, Gr.trans (X1 := fun k => X k ∨ k = w.heap.size ∨ k = w.heap.size + 1 ∨ k = w1.heap.size ∨ k = w1.heap.size + 1) (M1 := fun k => M k ∨ (k = w.heap.size ∨ k = w.heap.size + 1 ∨ k = w1.heap.size ∨ k = w1.heap.size + 1)) ⟨HW3F.out, fun k hk => .inl hk, fun k hk => ?_, fun k hk => ?_⟩ HG4.out, HN4.out⟩
              · rcases hk with h | h | h | h | h
                · exact .inl h
                all_goals exact .inr (by omega)
              · rcases hk with h | h | h | h | h
                · exact .inl h
                all_goals exact .inr (by omega)
      · obtain ⟨a, ha⟩ : ∃ a, N.find rf = some a := Option.isSome_iff_exists.1 hhas
        obtain ⟨pa, -, _, _, _, _, hlk⟩ := HK1.out rf a ha
        have hlk1 := hlk w1 (HF1.out.weak (fun _ h => h.elim))
        have HE := Lib.hid (show spawnN N ⟨#[b]⟩ = (N, 0, 5) by unfold spawnN; dsimp only; rw [HNN.out]; dsimp only; rw [HRF.out, if_pos hhas])
        clear ha hlk hhas
        go_wp2_with fail
        refine bodyPost_ret (v := .tuple #[.int .i64 0, .int .i64 5]) (by simp [results, Tryz.results16, go_sem]) rfl ?_
        rw [HE.out]
        exact ⟨P, fun _ _ => rfl, rfl, X, M, Gr.new HF1.out, HN.out.new HF1.out (fun _ h => h)⟩
end Go.Proofs.YtjjfglbcikaicaaGreat
