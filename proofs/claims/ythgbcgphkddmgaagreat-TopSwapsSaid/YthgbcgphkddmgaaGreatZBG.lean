/- What the law's own functions answer. A letter that holds a number: it is right. Numbers as bytes. A letter that holds a number, as bytes. A line's end: how it lies, and Put. -/
import Derived.Test.YthgbcgphkddmgaaGreatZAX
import Derived.Test.YthgbcgphkddmgaaGreatZAL
import Derived.Test.YthgbcgphkddmgaaGreatZAP
import Derived.Test.YthgbcgphkddmgaaGreatZAN
import Derived.Test.YthgbcgphkddmgaaGreatZAO
import Derived.BigRegion
import Derived.Test.YthgbcgphkddmgaaGreatZAI
import Derived.Test.YthgbcgphkddmgaaGreatZAV
import Derived.Test.YthgbcgphkddmgaaGreatZAQ
import Derived.Deep.AppendLies
import Derived.Test.YthgbcgphkddmgaaGreatZBC
import Derived.Test.YthgbcgphkddmgaaGreatZAJ
import Derived.Shelf.SlGeneric
import Derived.Shelf.SlIter.Nil
import Derived.Shelf.SortM.Plain
import Derived.Shelf.SortM.SortNone
import Derived.Shelf.SlMaps.Clone
import Derived.Ground.GgzProg
import Derived.Ground.SlgmProg
import Derived.Ground.SlmcProg
import Derived.Test.YthgbcgphkddmgaaGreatProg
import Derived.Deep.RegionHeld3
import Derived.Test.YthgbcgphkddmgaaGreatZAD
import Derived.Test.YthgbcgphkddmgaaGreatZAF
import Derived.Test.YthgbcgphkddmgaaGreatZBE
import Derived.Deep.RegionLaw
import Derived.Test.YthgbcgphkddmgaaGreatZAC
import Derived.Laws.OwnMore
import Derived.Lib.AppendZeros
import Derived.Test.YthgbcgphkddmgaaGreatZAG
namespace Go.Proofs.YthgbcgphkddmgaaGreat
open Go.RowKit
set_option linter.unusedVariables false
set_option linter.unusedSimpArgs false
set_option maxRecDepth 100000 in
set_option maxHeartbeats 4000000 in
theorem rvref_any (x : Int) (w : World) : Calls Tryz.prog 10 #[.int .i64 x] w fun e w' => e = .returned (.agg #[.int .i64 6, .int .i64 x, .string ⟨#[]⟩, .slice none 0 0]) ∧ Fr (fun _ => False) w w' := by
  go_enter Tryz.func10, Tryz.ntmps10
  go_wp2_with fail
  refine bodyPost_ret (v := .agg #[.int .i64 6, .int .i64 x, .string ⟨#[]⟩, .slice none 0 0]) (by simp [results, Tryz.results10, go_sem]) rfl ⟨rfl, ?_⟩
  exact (Fr.refl _ _).alloc _
/-- a row of truth values that the law itself writes -/
structure BoolAt (w : World) (b m : Nat) (F : Nat → Bool) : Prop where
  c : ∀ j, j < m → w.cell? ⟨b, j, none⟩ = some (.bool (F j))
  fz : ∀ o, w.frozen? ⟨b, o, none⟩ = false
  lt : b < w.heap.size
theorem BoolAt.fr {D : Nat → Prop} {w w' : World} {b m : Nat} {F : Nat → Bool} (h : BoolAt w b m F) (hf : Fr D w w') (hn : ¬ D b) : BoolAt w' b m F :=
  ⟨fun j hj => hf.cell (h.c j hj) hn, fun o => (hf.frozen h.lt hn).trans (h.fz o), Nat.lt_of_lt_of_le h.lt hf.size⟩
theorem BoolAt.congr {w : World} {b m : Nat} {F G : Nat → Bool} (h : BoolAt w b m F) (e : ∀ j, j < m → G j = F j) : BoolAt w b m G :=
  ⟨fun j hj => by rw [e j hj]; exact h.c j hj, h.fz, h.lt⟩
theorem BoolAt.set {w : World} {b m : Nat} {F : Nat → Bool} (h : BoolAt w b m F) {i : Nat} (hi : i < m) (x : Bool) : BoolAt (w.setCell ⟨b, i, none⟩ (.bool x)) b m (fun j => if j = i then x else F j) := by
  refine ⟨fun j hj => ?_, fun o => set_fz h.fz o, by simpa using h.lt⟩
  by_cases e : j = i
  · subst e
    rw [if_pos rfl]
    exact set_this (h.c j hj)
  · rw [if_neg e]
    exact set_other (h.c j hj) e
section
variable {w w' : World} {X X' Mc D : Nat → Prop} {s base T T' : Nat} {bl : CBk → Nat} {pn : Nat → Nat} {vl : Value} {ll : Nat} {M : Nat → Nat → Prop} {Pn : Nat → Int → Nat} {C : CqS}
theorem CqG.up (h : CqG w X Mc base T bl pn vl ll M Pn C) (hT : T ≤ T') : CqG w X Mc base T' bl pn vl ll M Pn C :=
  ⟨h.n8, h.inj, h.own, h.vlm, h.sub, h.mx, h.dis, fun i hi => (h.nd i hi).up hT, h.ids, h.cp, h.co⟩
/-- the law's cluster; E: blocks of the law's own -/
def TgC (s : Nat) (w : World) (bl : CBk → Nat) (pn : Nat → Nat) (T ll : Nat) (C : CqS) (E : Nat → Prop) : Prop := ∃ X Mc, CqAt w X Mc s T bl pn ll C ∧ ∀ k, E k → X k ∧ ¬ Mc k ∧ s ≤ k
variable {E : Nat → Prop}
theorem TgC.new (h : TgC s w bl pn T ll C E) (hf : Fr (fun _ => False) w w') : TgC s w' bl pn T ll C E := by
  obtain ⟨X, Mc, ⟨vl, M, Pn, hc⟩, he⟩ := h
  exact ⟨X, Mc, ⟨vl, M, Pn, hc.new hf⟩, he⟩
theorem TgC.own (h : TgC s w bl pn T ll C E) (hf : Fr (fun _ => False) w w') {q : Nat} (h1 : w.heap.size ≤ q) (h2 : q < w'.heap.size) (hs : s ≤ w.heap.size) : TgC s w' bl pn T ll C (fun k => E k ∨ k = q) := by
  obtain ⟨X, Mc, ⟨vl, M, Pn, hc⟩, he⟩ := h
  refine ⟨fun k => X k ∨ k = q, Mc, ⟨vl, M, Pn, hc.fr hf (fun _ h => h.elim) (fun k hk => .inl hk) (fun k hk => ?_)⟩, fun k hk => ?_⟩
  · rcases hk with hk | rfl
    · exact .inl hk
    · exact .inr ⟨h1, h2⟩
  · rcases hk with hk | rfl
    · exact ⟨.inl (he k hk).1, (he k hk).2⟩
    · exact ⟨.inr rfl, fun hm => by have := hc.xlt _ (hc.mx _ hm).1; omega, by omega⟩
theorem TgC.put (h : TgC s w bl pn T ll C E) (hf : Fr E w w') : TgC s w' bl pn T ll C E := by
  obtain ⟨X, Mc, ⟨vl, M, Pn, hc⟩, he⟩ := h
  exact ⟨X, Mc, ⟨vl, M, Pn, hc.fr hf (fun k hk => ⟨(he k hk).1, (he k hk).2.2, (he k hk).2.1⟩) (fun _ h => h) (fun _ h => .inl h)⟩, he⟩
/-- behind a call on the cluster -/
theorem TgC.call {C' : CqS} {T' ll' : Nat} {X Mc X' Mc' : Nat → Prop} (hc : CqG w X Mc s T bl pn vl ll M Pn C) (he : ∀ k, E k → X k ∧ ¬ Mc k ∧ s ≤ k) (hg : Gr X Mc w X' Mc' w') (hc' : CqAt w' X' Mc' s T' bl pn ll' C') : TgC s w' bl pn T' ll' C' E ∧ Fr (fun k => s ≤ k ∧ ¬ E k) w w' :=
  ⟨⟨X', Mc', hc', fun k hk => ⟨hg.up k (he k hk).1, fun hm => by
    rcases hg.ms k hm with e | e
    · exact (he k hk).2.1 e
    · have := hc.xlt _ (he k hk).1; omega, (he k hk).2.2⟩⟩, hg.fr.weak (fun k hk => ⟨(hc.mx k hk).2, fun hke => (he k hke).2.1 hk⟩)⟩
theorem TgC.lt (h : TgC s w bl pn T ll C E) : ∀ k, E k → k < w.heap.size := by
  obtain ⟨X, Mc, ⟨vl, M, Pn, hc⟩, he⟩ := h
  exact fun k hk => hc.xlt k (he k hk).1
theorem TgC.sz (h : TgC s w bl pn T ll C E) : s ≤ w.heap.size := by
  obtain ⟨X, Mc, ⟨vl, M, Pn, hc⟩, he⟩ := h
  have h1 := hc.mx _ (hc.own .P trivial).1
  have := hc.xlt _ h1.1
  omega
theorem TgC.up (h : TgC s w bl pn T ll C E) (hT : T ≤ T') : TgC s w bl pn T' ll C E := by
  obtain ⟨X, Mc, ⟨vl, M, Pn, hc⟩, he⟩ := h
  exact ⟨X, Mc, ⟨vl, M, Pn, hc.up hT⟩, he⟩
theorem TgC.less {E' : Nat → Prop} (h : TgC s w bl pn T ll C E) (hE : ∀ k, E' k → E k) : TgC s w bl pn T ll C E' := by
  obtain ⟨X, Mc, hc, he⟩ := h
  exact ⟨X, Mc, hc, fun k hk => he k (hE k hk)⟩
end
end Go.Proofs.YthgbcgphkddmgaaGreat
namespace Go.Proofs.YthgbcgphkddmgaaGreat
open Go.RowKit
set_option linter.unusedVariables false
set_option linter.unusedSimpArgs false
/-- the cells of a number as a value -/
def vI (n : Int) (A : Option Addr) (c : Nat) : List Value := [.int .i64 2, .int .i64 n, .string ⟨#[]⟩, .slice A 0 c]
/-- the cells of a letter that holds a number -/
def lI (frm dst n : Int) (A : Option Addr) (c : Nat) : List Value := [.int .i64 1, .int .i64 frm, .int .i64 dst, .int .i64 0, .string ⟨#[]⟩, .int .i64 2, .int .i64 n, .string ⟨#[]⟩, .slice A 0 c]
set_option maxRecDepth 100000 in
set_option maxHeartbeats 4000000 in
theorem fits_flat (n : Int) (A : Option Addr) (c q : Nat) (w : World) (hq : w.cell? ⟨q, 0, none⟩ = some (.int .i64 400)) (hz : w.frozen? ⟨q, 0, none⟩ = false) :
    Calls Tryz.prog 205 #[.agg #[.int .i64 2, .int .i64 n, .string ⟨#[]⟩, .slice A 0 c], .pointer (some ⟨q, 0, none⟩), .int .i64 1] w fun e w' => e = .returned (.bool true) ∧ Fr (fun k => k = q) w w' := by
  have hql : q < w.heap.size := World.block_lt_of_cell? w _ hq
  go_enter Tryz.func205, Tryz.ntmps205
  go_wp2_with fail
  go_loopw [8, 31] (fun _ v31 wr => v31 = .int .i64 0 ∧ Fr (fun k => k = q) w wr) (fun _ _ _ => 0)
  case atStart => exact ⟨rfl, (Fr.setAt (Fr.refl _ w) _).alloc _⟩
  case round =>
    obtain ⟨rfl, hf⟩ := hrel
    go_wp2_with fail
    go_ret
    exact ⟨rfl, hf⟩
set_option maxRecDepth 100000 in
set_option maxHeartbeats 4000000 in
theorem formed_flat (n : Int) (A : Option Addr) (c : Nat) (w : World) :
    Calls Tryz.prog 206 #[.agg #[.int .i64 2, .int .i64 n, .string ⟨#[]⟩, .slice A 0 c]] w fun e w' => e = .returned (.bool true) ∧ Fr (fun _ => False) w w' := by
  go_enter Tryz.func206, Tryz.ntmps206
  go_wp2_with fail
  go_region
  all_goals
    go_wp2_with fail
    go_loopw [7, 62] (fun _ v62 wr => v62 = .int .i64 0 ∧ Fr (fun _ => False) w wr) (fun _ _ _ => 0)
    case atStart => exact ⟨rfl, ((Fr.refl _ w).alloc _).drew⟩
    case round =>
      obtain ⟨rfl, hf⟩ := hrel
      go_wp2_with fail
      go_ret
      exact ⟨rfl, hf⟩
set_option maxRecDepth 100000 in
set_option maxHeartbeats 4000000 in
theorem check_flat (n : Int) (A : Option Addr) (c : Nat) (w : World) :
    Calls Tryz.prog 184 #[.agg #[.int .i64 2, .int .i64 n, .string ⟨#[]⟩, .slice A 0 c]] w fun e w' => e = .returned (.int .i64 0) ∧ Fr (fun _ => False) w w' := by
  have HFI := Lib.hid (fits_flat n A c (w.heap.size + 1) ((w.alloc (.cells #[.int .i64 2, .int .i64 n, .string ⟨#[]⟩, .slice A 0 c] 36)).alloc (.cells #[.int .i64 400] 3)) (by simp [go_sem]) (by simp [go_sem]))
  have HFO := Lib.hid (fun W => formed_flat n A c W)
  go_enter Tryz.func184, Tryz.ntmps184
  go_wp2_with fail
  refine HFI.out.mono ?_
  rintro e w1 ⟨rfl, hf1⟩
  have HF1 := Lib.hid (show Fr (fun _ => False) w w1 from (((Fr.refl _ w).alloc _).alloc _).trans hf1 (fun k hk => .inr (by omega)))
  have c0 := hf1.cell (b := w.heap.size) (o := 0) (v := .int .i64 2) (by simp [go_sem]) (by omega)
  have c1 := hf1.cell (b := w.heap.size) (o := 1) (v := .int .i64 n) (by simp [go_sem]) (by omega)
  have c2 := hf1.cell (b := w.heap.size) (o := 2) (v := .string ⟨#[]⟩) (by simp [go_sem]) (by omega)
  have c3 := hf1.cell (b := w.heap.size) (o := 3) (v := .slice A 0 c) (by simp [go_sem]) (by omega)
  clear hf1 HFI
  go_wp2_with fail
  refine (HFO.out w1).mono ?_
  rintro e w2 ⟨rfl, hf2⟩
  have HF2 := Lib.hid (HF1.out.trans' hf2)
  clear hf2
  go_wp2_with fail
  go_ret
  exact ⟨rfl, HF2.out⟩
set_option maxRecDepth 100000 in
set_option maxHeartbeats 4000000 in
theorem checkL_flat (frm dst n : Int) (h1 : 0 ≤ frm) (h2 : 0 ≤ dst) (A : Option Addr) (c : Nat) (w : World) :
    Calls Tryz.prog 147 #[.agg #[.int .i64 1, .int .i64 frm, .int .i64 dst, .int .i64 0, .string ⟨#[]⟩, .int .i64 2, .int .i64 n, .string ⟨#[]⟩, .slice A 0 c]] w fun e w' => e = .returned (.int .i64 0) ∧ Fr (fun _ => False) w w' := by
  have d1 : decide (frm < 0) = false := decide_eq_false (by omega)
  have d2 : decide (dst < 0) = false := decide_eq_false (by omega)
  have HC := Lib.hid (fun W => check_flat n A c W)
  go_enter Tryz.func147, Tryz.ntmps147
  go_wp2_with fail
  refine (HC.out _).mono ?_
  rintro e w2 ⟨rfl, hf2⟩
  have HF2 := Lib.hid (((Fr.refl _ w).alloc _).trans' hf2)
  clear hf2
  go_wp2_with fail
  go_ret
  exact ⟨rfl, HF2.out⟩
end Go.Proofs.YthgbcgphkddmgaaGreat
namespace Go.Proofs.YthgbcgphkddmgaaGreat
open Go.RowKit
set_option linter.unusedVariables false
set_option linter.unusedSimpArgs false
def encB (l : List Nat) : List Value := l.map fun x : Nat => Value.int .u8 (x : Int)
/-- a row of bytes -/
def OwnB (w : World) (base : Nat) (v : Value) (l : List Nat) : Prop := w.ownsRow base 5 1 v l.length (encB l)
theorem infoU8 : (Tryz.prog.info? 5).map (fun i => (i.zero, i.size, i.bytes)) = some (some (.int .u8 0), 1, 1) := by kernel_rfl
/-- a small number, seven bits at a time -/
def natB (u : Nat) : List Nat := if u < 128 then [u] else if u < 16384 then [u % 128 + 128, u / 128] else [u % 128 + 128, u / 128 % 128 + 128, u / 16384]
theorem natB_more {u : Nat} (h : 128 ≤ u) (h2 : u < 2097152) : natB u = (u % 128 + 128) :: natB (u / 128) := by
  unfold natB
  rw [if_neg (by omega)]
  by_cases e : u < 16384
  · rw [if_pos e, if_pos (by omega)]
  · rw [if_neg e, if_neg (by omega), if_pos (by omega)]
    rw [Nat.div_div_eq_div_mul]
theorem or_all : ((List.range 256).all fun y => bits .or .u8 (y : Int) 128 == ((y % 128 + 128 : Nat) : Int)) = true := by kernel_rfl
theorem or_128 (x : Nat) : bits .or .u8 ((x : Int) % 256) 128 = ((x % 128 + 128 : Nat) : Int) := by
  have h := List.all_eq_true.1 or_all (x % 256) (List.mem_range.2 (Nat.mod_lt _ (by omega)))
  have e : ((x : Int) % 256) = ((x % 256 : Nat) : Int) := by rw [Int.natCast_emod]; rfl
  rw [e]
  have h2 : bits .or .u8 ((x % 256 : Nat) : Int) 128 = ((x % 256 % 128 + 128 : Nat) : Int) := by simpa using h
  rw [h2, Nat.mod_mod_of_dvd x (by decide : 128 ∣ 256)]
/-- what a writer of bytes answers -/
def ByPost (base : Nat) (v : Value) (l : List Nat) (w : World) (e : Ending) (w' : World) : Prop :=
  ∃ v', e = .returned v' ∧ OwnB w' base v' l ∧ w.grownBy w' v.ownBlock ∧ (v'.ownBlock = v.ownBlock ∨ ∃ g, v'.ownBlock = some g ∧ w.heap.size ≤ g)
theorem by_step {w wr w7 : World} {o : Obj} {v0 v : Value} {gn n cn : Nat} (h : w.grownBy wr v0.ownBlock) (hg : (wr.alloc o).grownBy w7 v.ownBlock) (ha : v.ownBlock = v0.ownBlock ∨ ∃ g, v.ownBlock = some g ∧ w.heap.size ≤ g) (ha7 : v.ownBlock = some gn ∨ gn = wr.heap.size + 1) :
    w.grownBy w7 v0.ownBlock ∧ ((Value.slice (some ⟨gn, 0, none⟩) n cn).ownBlock = v0.ownBlock ∨ ∃ g, (Value.slice (some ⟨gn, 0, none⟩) n cn).ownBlock = some g ∧ w.heap.size ≤ g) := by
  have hs := h.size
  refine ⟨grown_step (grown_alloc h o) hg ?_, ?_⟩
  · rcases ha with e | ⟨g, e, hg2⟩
    · exact .inl e
    · exact .inr (fun k hk => by rw [e] at hk; injection hk with hk; omega)
  · rcases ha7 with e | e
    · rcases ha with e2 | ⟨g, e2, hg2⟩
      · exact .inl (show some gn = _ by rw [← e, e2])
      · refine .inr ⟨gn, rfl, ?_⟩
        rw [e] at e2
        injection e2 with e2
        omega
    · exact .inr ⟨gn, rfl, by omega⟩
theorem own_byte {w : World} {base gn cn x : Nat} {l : List Nat} (h : w.ownsRow base 5 1 (.slice (some ⟨gn, 0, none⟩) (l.length + 1) cn) (l.length + 1) (encB l ++ [.int .u8 (x : Int)])) : OwnB w base (.slice (some ⟨gn, 0, none⟩) (l.length + 1) cn) (l ++ [x]) := by
  unfold OwnB encB
  rw [List.length_append, List.map_append]
  exact h
set_option maxRecDepth 100000 in
set_option maxHeartbeats 4000000 in
theorem unsigned_any {w : World} {base : Nat} {v : Value} {l : List Nat} (u : Nat) (hu : u < 2097152) (ho : OwnB w base v l) (hl : l.length ≤ 1000) (hb : base ≤ w.heap.size) :
    Calls Tryz.prog 213 #[v, .int .u64 (u : Int)] w (ByPost base v (l ++ natB u) w) := by
  obtain ⟨i0, hi0, jz0, jz1, jz2⟩ := info_parts infoU8
  obtain ⟨A0, c0, rfl, -, -, -⟩ := own_any ho
  have HO := Lib.hid ho
  clear ho
  go_enter Tryz.func213, Tryz.ntmps213
  go_wp2_with fail
  go_loopw [0, 1] (fun v0 v1 wr => ∃ (x : Nat) (pre : List Nat) (A : Option Addr) (c : Nat), x < 2097152 ∧ v1 = .int .u64 (x : Int) ∧ pre.length ≤ 2 ∧ (pre.length = 1 → x < 16384) ∧ (pre.length = 2 → x < 128) ∧ v0 = .slice A (l ++ pre).length c ∧ Hid (pre ++ natB x = natB u) ∧ Hid (OwnB wr base (.slice A (l ++ pre).length c) (l ++ pre)) ∧ Hid (w.grownBy wr (Value.slice A0 l.length c0).ownBlock) ∧ Hid ((Value.slice A (l ++ pre).length c).ownBlock = (Value.slice A0 l.length c0).ownBlock ∨ ∃ g, (Value.slice A (l ++ pre).length c).ownBlock = some g ∧ w.heap.size ≤ g)) (fun _ v1 _ => (intOf v1).toNat)
  case atStart => exact ⟨u, [], A0, c0, hu, rfl, by simp, fun h => (by cases h), fun h => (by cases h), by simp, Lib.hid rfl, Lib.hid (by simpa using HO.out), Lib.hid (grown_self _ _), Lib.hid (.inl (by simp))⟩
  case round =>
    obtain ⟨x, pre, A, c, hx, rfl, hp, hp1, hp2, rfl, HPN, HR, HG, HA⟩ := hrel
    by_cases hlt : 128 ≤ x
    · have hd : decide ((x : Int) ≥ 128) = true := decide_eq_true (by omega)
      have hor := or_128 x
      have hln : (l ++ pre).length ≤ 1002 := by rw [List.length_append]; omega
      obtain ⟨lp, hlp⟩ : ∃ lp, l ++ pre = lp := ⟨_, rfl⟩
      rw [hlp] at HR HA hln ⊢
      have HLP := Lib.hid hlp
      have HZ := Lib.hid (show base ≤ wr.heap.size from Nat.le_trans hb HG.out.size)
      have hz := HZ.out
      clear hlp
      go_wp2_with (at_builtin; go_loud (refine wpList_append_lies _ rfl _ _ 122 rfl base 5 i0 _ 1 1 Tryz.underlying122 hi0 jz0 jz1 jz2 rfl (by omega) (.slice A lp.length c) lp.length (encB lp) rfl (World.ownsRow.alloc HR.out _) ⟨wr.heap.size, 0, none⟩ 1 1 [.int .u8 ((x % 128 + 128 : Nat) : Int)] rfl rfl (cell_newL _ _ _ _ rfl) (by intro u hu; simp at hu; subst hu; rfl) (by omega) (by unfold maxLen; omega) (by omega) (by simp; omega) (wr.heap.size + 1) (by simp) ?_; intro gn cn w7 hown7 hgrow7 hat7 hlt7; have HO7 := Lib.hid hown7; have HG7 := Lib.hid hgrow7; have HA7 := Lib.hid hat7; clear hown7 hgrow7 hat7 hlt7))
      have hbk := by_step (n := lp.length + 1) (cn := cn) HG.out HG7.out HA.out HA7.out
      have hpl : pre.length ≤ 1 := by omega
      have e2 : l ++ (pre ++ [x % 128 + 128]) = lp ++ [x % 128 + 128] := by rw [← List.append_assoc, HLP.out]
      have e1 : (l ++ (pre ++ [x % 128 + 128])).length = lp.length + 1 := by rw [e2]; simp
      refine ⟨⟨x / 128, pre ++ [x % 128 + 128], some ⟨gn, 0, none⟩, cn, by omega, by rw [Int.natCast_ediv]; rfl, by simp; omega, fun h => by omega, fun h => by have : pre.length = 1 := (by simp at h; omega); have := hp1 this; omega, by rw [e1], Lib.hid (by rw [← HPN.out, natB_more hlt hx]; simp), Lib.hid (by rw [e1, e2]; exact own_byte HO7.out), Lib.hid hbk.1, Lib.hid (by rw [e1]; exact hbk.2)⟩, by simp [intOf]; omega⟩
    · have hd : decide ((x : Int) ≥ 128) = false := decide_eq_false (by omega)
      have hln : (l ++ pre).length ≤ 1002 := by rw [List.length_append]; omega
      obtain ⟨lp, hlp⟩ : ∃ lp, l ++ pre = lp := ⟨_, rfl⟩
      rw [hlp] at HR HA hln ⊢
      have HLP := Lib.hid hlp
      have HZ := Lib.hid (show base ≤ wr.heap.size from Nat.le_trans hb HG.out.size)
      have hz := HZ.out
      clear hlp
      go_wp2_with (at_builtin; go_loud (refine wpList_append_lies _ rfl _ _ 122 rfl base 5 i0 _ 1 1 Tryz.underlying122 hi0 jz0 jz1 jz2 rfl (by omega) (.slice A lp.length c) lp.length (encB lp) rfl (World.ownsRow.alloc HR.out _) ⟨wr.heap.size, 0, none⟩ 1 1 [.int .u8 (x : Int)] rfl rfl (cell_newL _ _ _ _ rfl) (by intro u hu; simp at hu; subst hu; rfl) (by omega) (by unfold maxLen; omega) (by omega) (by simp; omega) (wr.heap.size + 1) (by simp) ?_; intro gn cn w7 hown7 hgrow7 hat7 hlt7; have HO7 := Lib.hid hown7; have HG7 := Lib.hid hgrow7; have HA7 := Lib.hid hat7; clear hown7 hgrow7 hat7 hlt7))
      have hbk := by_step (n := lp.length + 1) (cn := cn) HG.out HG7.out HA.out HA7.out
      go_ret
      refine ⟨_, rfl, ?_, hbk.1, hbk.2⟩
      have e : natB x = [x] := by unfold natB; rw [if_pos (by omega)]
      rw [← HPN.out, e, ← List.append_assoc, HLP.out]
      exact own_byte HO7.out
set_option maxRecDepth 100000 in
set_option maxHeartbeats 4000000 in
theorem wnat_any {w : World} {base : Nat} {v : Value} {l : List Nat} (u : Nat) (hu : u < 2097152) (ho : OwnB w base v l) (hl : l.length ≤ 1000) (hb : base ≤ w.heap.size) :
    Calls Tryz.prog 196 #[v, .int .i64 (u : Int)] w (ByPost base v (l ++ natB u) w) := by
  have HU := Lib.hid (unsigned_any u hu ho hl hb)
  clear ho
  go_enter Tryz.func196, Tryz.ntmps196
  go_wp2_with fail
  refine HU.out.mono ?_
  rintro e w1 ⟨v', rfl, h1, h2, h3⟩
  have H1 := Lib.hid h1
  have H2 := Lib.hid h2
  have H3 := Lib.hid h3
  clear h1 h2 h3 HU
  go_wp2_with fail
  go_ret
  exact ⟨v', rfl, H1.out, H2.out, H3.out⟩
theorem xor_zero64 {y : Nat} (hy : y < 18446744073709551616) : bits .xor .u64 (y : Int) 0 = (y : Int) := by
  have h2 : bits .xor .u64 (y : Int) 0 = IntKind.u64.wrap (((BitVec.ofInt 64 (y : Int) ^^^ BitVec.ofInt 64 0).toNat : Nat) : Int) := rfl
  have h1 : (BitVec.ofInt 64 (y : Int) ^^^ BitVec.ofInt 64 0).toNat = y := by
    rw [show BitVec.ofInt 64 0 = 0#64 from rfl, BitVec.xor_zero, BitVec.toNat_ofInt]
    omega
  rw [h2, h1, IntKind.wrap_u64]
  omega
set_option maxRecDepth 100000 in
set_option maxHeartbeats 4000000 in
theorem wint_any {w : World} {base : Nat} {v : Value} {l : List Nat} (u : Nat) (hu : u < 1000000) (ho : OwnB w base v l) (hl : l.length ≤ 1000) (hb : base ≤ w.heap.size) :
    Calls Tryz.prog 214 #[v, .int .i64 (u : Int)] w (ByPost base v (l ++ natB (2 * u)) w) := by
  have HU := Lib.hid (unsigned_any (2 * u) (by omega) ho hl hb)
  have hxor : bits .xor .u64 ((u : Int) * 2) ((u : Int) / 9223372036854775808) = ((2 * u : Nat) : Int) := by
    rw [show (u : Int) / 9223372036854775808 = 0 by omega, show (u : Int) * 2 = ((2 * u : Nat) : Int) by omega]
    exact xor_zero64 (by omega)
  have HX := Lib.hid hxor
  clear ho hxor
  go_enter Tryz.func214, Tryz.ntmps214
  go_wp2_with fail
  rw [HX.out]
  refine HU.out.mono ?_
  rintro e w1 ⟨v', rfl, h1, h2, h3⟩
  have H1 := Lib.hid h1
  have H2 := Lib.hid h2
  have H3 := Lib.hid h3
  clear h1 h2 h3 HU
  go_wp2_with fail
  go_ret
  exact ⟨v', rfl, H1.out, H2.out, H3.out⟩
theorem append_noS (w : World) (ty : TypeId) (base : Nat) (v : Value) (n : Nat) (xs : List Value) (hown : w.ownsRow base 5 1 v n xs) : (Builtin.append_ #[122, 9] ty #[v, .string ⟨#[]⟩]).run Tryz.prog w = .ok v w := by
  obtain ⟨i0, hi, hz0, hz1, hz2⟩ := info_parts infoU8
  have hE : (⟨#[]⟩ : ByteArray) = ByteArray.empty := rfl
  have hS : (⟨#[]⟩ : ByteArray).size = 0 := rfl
  rcases hown.2 with ⟨rfl, rfl⟩ | ⟨g, cap, cur, rfl, _, _, hnc, _⟩
  · simp [Builtin.append_, run_underlying Tryz.underlying122, sizeOf, typeInfo, hi, Builtin.lenOf, Builtin.firstCells, hE, hS]
  · simp [Builtin.append_, run_underlying Tryz.underlying122, sizeOf, typeInfo, hi, Builtin.lenOf, Builtin.firstCells, hnc, storeCells, hE, hS]
set_option maxRecDepth 100000 in
set_option maxHeartbeats 4000000 in
theorem wtext_nil {w : World} {base : Nat} {v : Value} {l : List Nat} (ho : OwnB w base v l) (hl : l.length ≤ 1000) (hb : base ≤ w.heap.size) :
    Calls Tryz.prog 197 #[v, .string ⟨#[]⟩] w (ByPost base v (l ++ natB 0) w) := by
  have HU := Lib.hid (wnat_any 0 (by omega) ho hl hb)
  clear ho
  go_enter Tryz.func197, Tryz.ntmps197
  go_wp2_with fail
  refine HU.out.mono ?_
  rintro e w1 ⟨v', rfl, h1, h2, h3⟩
  have HAN := Lib.hid (fun ty => append_noS w1 ty base v' _ _ h1)
  have H1 := Lib.hid h1
  have H2 := Lib.hid h2
  have H3 := Lib.hid h3
  clear h1 h2 h3 HU
  go_wp2_with (at_builtin; refine Lib.wpList_append_run _ rfl _ _ _ _ rfl _ _ rfl rfl _ _ (HAN.out _) ?_)
  go_ret
  exact ⟨_, rfl, H1.out, H2.out, H3.out⟩
set_option maxRecDepth 100000 in
set_option maxHeartbeats 4000000 in
theorem wlist_nil {w : World} {base c : Nat} {v : Value} {l : List Nat} {A : Option Addr} (f : Value) (ho : OwnB w base v l) (hl : l.length ≤ 1000) (hb : base ≤ w.heap.size) :
    Calls Tryz.prog 215 #[v, .slice A 0 c, f] w (ByPost base v (l ++ natB 0) w) := by
  have HU := Lib.hid (wnat_any 0 (by omega) ho hl hb)
  clear ho
  go_enter Tryz.func215, Tryz.ntmps215
  go_wp2_with fail
  refine HU.out.mono ?_
  rintro e w1 ⟨v', rfl, h1, h2, h3⟩
  have H1 := Lib.hid h1
  have H2 := Lib.hid h2
  have H3 := Lib.hid h3
  clear h1 h2 h3 HU
  go_wp2_with fail
  go_loopw [0, 8, 15] (fun v0 _ v15 wr => v0 = v' ∧ v15 = .int .i64 0 ∧ wr = w1) (fun _ _ _ _ => 0)
  case atStart => exact ⟨rfl, rfl, rfl⟩
  case round =>
    obtain ⟨rfl, rfl, rfl⟩ := hrel
    go_wp2_with fail
    go_ret
    exact ⟨_, rfl, H1.out, H2.out, H3.out⟩
end Go.Proofs.YthgbcgphkddmgaaGreat
namespace Go.Proofs.YthgbcgphkddmgaaGreat
open Go.RowKit
set_option linter.unusedVariables false
set_option linter.unusedSimpArgs false
/-- what has been written since w0 -/
structure ByQ (w0 W : World) (base : Nat) (v v' : Value) (l' : List Nat) : Prop where
  own : OwnB W base v' l'
  g : w0.grownBy W v.ownBlock
  hat : v'.ownBlock = v.ownBlock ∨ ∃ g, v'.ownBlock = some g ∧ w0.heap.size ≤ g
theorem ByQ.post {w0 W : World} {base : Nat} {v v' : Value} {l' : List Nat} (h : ByQ w0 W base v v' l') : ByPost base v l' w0 (.returned v') W := ⟨v', rfl, h.own, h.g, h.hat⟩
theorem ByQ.of {w0 W : World} {base : Nat} {v v' : Value} {l' : List Nat} (h1 : OwnB W base v' l') (h2 : w0.grownBy W v.ownBlock) (h3 : v'.ownBlock = v.ownBlock ∨ ∃ g, v'.ownBlock = some g ∧ w0.heap.size ≤ g) : ByQ w0 W base v v' l' := ⟨h1, h2, h3⟩
theorem ByQ.alloc {w0 W : World} {base : Nat} {v v' : Value} {l' : List Nat} (h : ByQ w0 W base v v' l') (o : Obj) : ByQ w0 (W.alloc o) base v v' l' := ⟨World.ownsRow.alloc h.own o, grown_alloc h.g o, h.hat⟩
theorem ByQ.drew {w0 W : World} {base : Nat} {v v' : Value} {l' : List Nat} (h : ByQ w0 W base v v' l') : ByQ w0 W.drew base v v' l' := ⟨h.own, ⟨h.g.os, h.g.tape, h.g.output, h.g.size, h.g.block⟩, h.hat⟩
theorem ByQ.call {w0 W W' : World} {base : Nat} {v v' v'' : Value} {l' l'' : List Nat} (h : ByQ w0 W base v v' l') (ho : OwnB W' base v'' l'') (hg : W.grownBy W' v'.ownBlock) (hat : v''.ownBlock = v'.ownBlock ∨ ∃ g, v''.ownBlock = some g ∧ W.heap.size ≤ g) : ByQ w0 W' base v v'' l'' := by
  have hs := h.g.size
  refine ⟨ho, grown_step h.g hg ?_, ?_⟩
  · rcases h.hat with e | ⟨g, e, hg2⟩
    · exact .inl e
    · exact .inr (fun k hk => by rw [e] at hk; injection hk with hk; omega)
  · rcases hat with e | ⟨g, e, hg2⟩
    · rcases h.hat with e2 | ⟨g, e2, hg2⟩
      · exact .inl (e.trans e2)
      · exact .inr ⟨g, e.trans e2, hg2⟩
    · exact .inr ⟨g, e, by omega⟩
theorem ByQ.cell {w0 W : World} {base b o : Nat} {u v v' : Value} {l' : List Nat} (h : ByQ w0 W base v v' l') (hc : w0.cell? ⟨b, o, none⟩ = some u) (hv : ∀ k, v.ownBlock = some k → k ≠ b) : W.cell? ⟨b, o, none⟩ = some u :=
  (grown_cell h.g (World.block_lt_of_cell? w0 _ hc) (fun e => hv b e.symm rfl)).trans hc
theorem ByQ.sz {w0 W : World} {base : Nat} {v v' : Value} {l' : List Nat} (h : ByQ w0 W base v v' l') : w0.heap.size ≤ W.heap.size := h.g.size
set_option maxRecDepth 100000 in
theorem step_byte {ops : Array Oper} {o : Oper} {a : Act} {K : Act → World → Prop} {Q : Exit → Act → World → Prop} {E : Prop} {w0 W : World} {base h x : Nat} {v v' : Value} {l' : List Nat} (hgd : o.guard = none) (s u : Operand)
    (ho : o.op = .call { callee := .builtin .append, args := #[s, u], argTypes := #[122, 122] }) (hs : a.eval s = v') (hu : a.eval u = .slice (some ⟨h, 0, none⟩) 1 1) (hc : W.cell? ⟨h, 0, none⟩ = some (.int .u8 (x : Int))) (H : ByQ w0 W base v v' l') (hl : l'.length ≤ 1000) (hb : base ≤ w0.heap.size)
    (hk : ∀ g c W', ByQ w0 W' base v (.slice (some ⟨g, 0, none⟩) (l'.length + 1) c) (l' ++ [x]) → K (a.put o.dst (.slice (some ⟨g, 0, none⟩) (l'.length + 1) c)) W') :
    if Region.wanted o (yielded ops a.tmps) = true then Oper.wp Tryz.prog o a W K Q else E := by
  obtain ⟨i0, hi0, z1, z2, z3⟩ := info_parts infoU8
  have hsz := H.sz
  refine step_append_lies _ hgd s u _ ho base 5 i0 _ 1 1 Tryz.underlying122 hi0 z1 z2 z3 rfl (by omega) v' l'.length (encB l') hs H.own ⟨h, 0, none⟩ 1 1 [.int .u8 (x : Int)] hu rfl (fun j u hj => ?_) (fun u hu => by simp at hu; subst hu; rfl) (by omega) (by unfold maxLen; omega) (by omega) (by omega) _ rfl (fun g c W' hown hgrow hat hlt => ?_)
  · match j, hj with
    | 0, hj => simp at hj; subst hj; simpa [Addr.add] using hc
  · refine hk g c W' (H.call (own_byte hown) hgrow ?_)
    rcases hat with e | e
    · exact .inl (show some g = _ from e.symm)
    · exact .inr ⟨g, rfl, by omega⟩
def encV (n : Nat) : List Nat := 2 :: (natB (2 * n) ++ (natB 0 ++ natB 0))
/-- behind a box that the call made first -/
theorem ByQ.back {w W1 W : World} {o : Obj} {base : Nat} {v v' : Value} {l' : List Nat} (h : ByQ W1 W base v v' l') (hW : W1 = w.alloc o) : ByPost base v l' w (.returned v') W := by
  subst hW
  refine ⟨v', rfl, h.own, grown_step (World.grownBy_alloc w o v.ownBlock) h.g (.inl rfl), ?_⟩
  rcases h.hat with e | ⟨g, e, hg⟩
  · exact .inl e
  · exact .inr ⟨g, e, by simp at hg; omega⟩
set_option maxRecDepth 100000 in
set_option maxHeartbeats 4000000 in
theorem appV_flat {w : World} {base c : Nat} {v : Value} {l : List Nat} {A : Option Addr} (n : Nat) (hn : n < 1000000) (ho : OwnB w base v l) (hl : l.length ≤ 900) (hb : base ≤ w.heap.size) :
    Calls Tryz.prog 198 #[v, .agg #[.int .i64 2, .int .i64 (n : Int), .string ⟨#[]⟩, .slice A 0 c]] w (ByPost base v (l ++ encV n) w) := by
  have HNE := Lib.hid (show ∀ k, v.ownBlock = some k → k ≠ w.heap.size from fun k hk => by have := (World.ownsRow.lt ho k hk).2; omega)
  obtain ⟨W1, hW1⟩ : ∃ W1, W1 = w.alloc (.cells #[.int .i64 2, .int .i64 (n : Int), .string ⟨#[]⟩, .slice A 0 c] 36) := ⟨_, rfl⟩
  have hq0 : ByQ W1 W1 base v v l := ⟨by rw [hW1]; exact World.ownsRow.alloc ho _, grown_self _ _, .inl rfl⟩
  have d0 : W1.cell? ⟨w.heap.size, 0, none⟩ = some (.int .i64 2) := by rw [hW1]; simp [go_sem]
  have d1 : W1.cell? ⟨w.heap.size, 1, none⟩ = some (.int .i64 (n : Int)) := by rw [hW1]; simp [go_sem]
  have d2 : W1.cell? ⟨w.heap.size, 2, none⟩ = some (.string ⟨#[]⟩) := by rw [hW1]; simp [go_sem]
  have d3 : W1.cell? ⟨w.heap.size, 3, none⟩ = some (.slice A 0 c) := by rw [hW1]; simp [go_sem]
  have HQ0 := Lib.hid hq0
  have HW1 := Lib.hid hW1
  have hb1 : base ≤ W1.heap.size := by rw [hW1]; simp; omega
  have hbs : w.heap.size < W1.heap.size := by rw [hW1]; simp
  have HD := Lib.hid (And.intro d0 (And.intro d1 (And.intro d2 d3)))
  clear hq0 hW1 ho
  go_enter Tryz.func198, Tryz.ntmps198
  go_wp2_with fail
  rw [← HW1.out]
  go_cut [0] (fun v0 wx => ByQ W1 wx base v v0 (l ++ ([2] ++ natB (2 * n))))
  case first =>
    go_region_law
      (first
        | (refine step_byte (w0 := W1) (base := base) (v := v) (v' := v) (l' := l) (x := 2) (by rfl) _ _ (by rfl) (by rfl) (by rfl) (by first | (simp [go_sem]; done) | (simp [go_sem]; rfl)) (by first | exact HQ0.out.drew.alloc _ | exact (HQ0.out.alloc _).drew | exact HQ0.out.alloc _ | exact HQ0.out.drew) (by omega) hb1 ?_; intro g1 c1 W5 HQ'; have HQ1 := Lib.hid HQ'; have e1 := HQ'.cell d1 HNE.out; have hz5 := HQ'.sz; clear HQ')
        | (refine step_call2 (by rfl) 214 (fun _ _ => by kernel_rfl) _ _ _ _ (by rfl) (.slice (some ⟨g1, 0, none⟩) (l.length + 1) c1) (.int .i64 (n : Int)) (by first | (simp [Act.eval]; done) | simp [Act.eval, Act.put]) (by first | (simp [Act.eval]; done) | simp [Act.eval, Act.put]) (wint_any n hn HQ1.out.own (by simp; omega) (by have := HQ1.out.sz; omega)) ?_; rintro e w3 ⟨v3, rfl, hq1, hq2, hq3⟩; refine ⟨v3, rfl, ?_⟩; have HQ3 := Lib.hid (HQ1.out.call hq1 hq2 hq3); clear hq1 hq2 hq3))
    all_goals
      go_wp2_with fail
      go_meet
      rw [← List.append_assoc]
      exact HQ3.out
  case rest =>
    rename World => w3
    have HQ3 := Lib.hid hcut
    obtain ⟨d0, d1, d2, d3⟩ := HD.out
    have e2 := hcut.cell d2 HNE.out
    have e3 := hcut.cell d3 HNE.out
    have hz3 := hcut.sz
    obtain ⟨l3, hl3⟩ : ∃ l3, l ++ ([2] ++ natB (2 * n)) = l3 := ⟨_, rfl⟩
    have hn3 : (natB (2 * n)).length ≤ 3 := by unfold natB; split <;> (try split) <;> simp
    have hll : l3.length ≤ 910 := by rw [← hl3]; simp; omega
    rw [hl3] at HQ3
    have HL3 := Lib.hid hl3
    clear hcut hl3 d0 d1 d2 d3
    go_wp2_with fail
    go_region_law
      (first
        | (refine step_call2 (by rfl) 197 (fun _ _ => by kernel_rfl) _ _ _ _ (by rfl) u0 (.string ⟨#[]⟩) (by first | (simp [Act.eval]; done) | simp [Act.eval, Act.put]) (by first | (simp [Act.eval]; done) | simp [Act.eval, Act.put]) (wtext_nil (l := l3) (by first | exact HQ3.out.drew.own | exact HQ3.out.own) (by omega) (by first | (simp; omega) | omega)) ?_; rintro e w5 ⟨v5, rfl, hq1, hq2, hq3⟩; refine ⟨v5, rfl, ?_⟩; have HQ5 := Lib.hid (HQ3.out.drew.call hq1 hq2 hq3); have f3 := HQ5.out.cell (HD.out.2.2.2) HNE.out; clear hq1 hq2 hq3)
        | (refine step_call3 (by rfl) 215 (fun _ _ => by kernel_rfl) _ _ _ _ _ _ (by rfl) v5 (.slice A 0 c) (.func (.func 198) #[] #[]) (by first | (simp [Act.eval]; done) | simp [Act.eval, Act.put]) (by first | (simp [Act.eval]; done) | simp [Act.eval, Act.put]) (by first | (simp [Act.eval]; done) | simp [Act.eval, Act.put]) (wlist_nil _ HQ5.out.own (by simp [natB]; omega) (by have := HQ5.out.sz; omega)) ?_; rintro e w6 ⟨v6, rfl, hq1, hq2, hq3⟩; refine ⟨v6, rfl, ?_⟩; have HQ6 := Lib.hid (HQ5.out.call hq1 hq2 hq3); clear hq1 hq2 hq3))
    all_goals
      go_wp2_with fail
      go_ret
      have h := HQ6.out.back HW1.out
      rw [← HL3.out] at h
      have e : l ++ ([2] ++ natB (2 * n)) ++ natB 0 ++ natB 0 = l ++ encV n := by unfold encV; simp
      rw [e] at h
      exact h
def encF (frm dst n : Nat) : List Nat := 1 :: (natB frm ++ (natB dst ++ (natB 0 ++ (natB 0 ++ encV n))))
theorem natB_len (u : Nat) : (natB u).length ≤ 3 := by unfold natB; split <;> (try split) <;> simp
set_option maxRecDepth 100000 in
set_option maxHeartbeats 4000000 in
theorem appL_flat {w : World} {base c : Nat} {v : Value} {l : List Nat} {A : Option Addr} (frm dst n : Nat) (hf : frm < 2097152) (hd : dst < 2097152) (hn : n < 1000000) (ho : OwnB w base v l) (hl : l.length ≤ 800) (hb : base ≤ w.heap.size) :
    Calls Tryz.prog 168 #[v, .agg #[.int .i64 1, .int .i64 (frm : Int), .int .i64 (dst : Int), .int .i64 0, .string ⟨#[]⟩, .int .i64 2, .int .i64 (n : Int), .string ⟨#[]⟩, .slice A 0 c]] w (ByPost base v (l ++ encF frm dst n) w) := by
  have HNE := Lib.hid (show ∀ k, v.ownBlock = some k → k ≠ w.heap.size from fun k hk => by have := (World.ownsRow.lt ho k hk).2; omega)
  obtain ⟨W1, hW1⟩ : ∃ W1, W1 = w.alloc (.cells #[.int .i64 1, .int .i64 (frm : Int), .int .i64 (dst : Int), .int .i64 0, .string ⟨#[]⟩, .int .i64 2, .int .i64 (n : Int), .string ⟨#[]⟩, .slice A 0 c] 154) := ⟨_, rfl⟩
  have hq0 : ByQ W1 W1 base v v l := ⟨by rw [hW1]; exact World.ownsRow.alloc ho _, grown_self _ _, .inl rfl⟩
  have HC := Lib.hid (show ∀ j u, ([.int .i64 1, .int .i64 (frm : Int), .int .i64 (dst : Int), .int .i64 0, .string ⟨#[]⟩, .int .i64 2, .int .i64 (n : Int), .string ⟨#[]⟩, .slice A 0 c] : List Value)[j]? = some u → W1.cell? ⟨w.heap.size, j, none⟩ = some u from fun j u hu => by
    rw [hW1]
    have := cell_newL w [.int .i64 1, .int .i64 (frm : Int), .int .i64 (dst : Int), .int .i64 0, .string ⟨#[]⟩, .int .i64 2, .int .i64 (n : Int), .string ⟨#[]⟩, .slice A 0 c] 154 w.heap.size rfl j u hu
    rw [Addr.add_lit, Nat.zero_add] at this
    exact this)
  have d0 := HC.out 0 _ rfl
  have d1 := HC.out 1 _ rfl
  have d2 := HC.out 2 _ rfl
  have HQ0 := Lib.hid hq0
  have HW1 := Lib.hid hW1
  have hb1 : base ≤ W1.heap.size := by rw [hW1]; simp; omega
  have hbs : w.heap.size < W1.heap.size := by rw [hW1]; simp
  have hnf := natB_len frm
  have hnd := natB_len dst
  clear hq0 hW1 ho
  go_enter Tryz.func168, Tryz.ntmps168
  go_wp2_with fail
  rw [← HW1.out]
  go_cut [0] (fun v0 wx => ByQ W1 wx base v v0 (l ++ ([1] ++ (natB frm ++ natB dst))))
  case first =>
    go_region_law
      (first
        | (refine step_byte (w0 := W1) (base := base) (v := v) (v' := v) (l' := l) (x := 1) (by rfl) _ _ (by rfl) (by rfl) (by rfl) (by first | (simp [go_sem]; done) | (simp [go_sem]; rfl)) (by first | exact HQ0.out.drew.alloc _ | exact (HQ0.out.alloc _).drew | exact HQ0.out.alloc _ | exact HQ0.out.drew) (by omega) hb1 ?_; intro g1 c1 W5 HQ'; have HQ1 := Lib.hid HQ'; have e1 := HQ'.cell d1 HNE.out; have e2 := HQ'.cell d2 HNE.out; have hz5 := HQ'.sz; clear HQ')
        | (refine step_call2 (by rfl) 196 (fun _ _ => by kernel_rfl) _ _ _ _ (by rfl) v3 (.int .i64 (dst : Int)) (by first | (simp [Act.eval]; done) | simp [Act.eval, Act.put]) (by first | (simp [Act.eval]; done) | simp [Act.eval, Act.put]) (wnat_any dst hd HQ3.out.own (by simp; omega) (by have := HQ3.out.sz; omega)) ?_; rintro e w4 ⟨v4, rfl, hq1, hq2, hq3⟩; refine ⟨v4, rfl, ?_⟩; have HQ4 := Lib.hid (HQ3.out.call hq1 hq2 hq3); clear hq1 hq2 hq3)
        | (refine step_call2 (by rfl) 196 (fun _ _ => by kernel_rfl) _ _ _ _ (by rfl) (.slice (some ⟨g1, 0, none⟩) (l.length + 1) c1) (.int .i64 (frm : Int)) (by first | (simp [Act.eval]; done) | simp [Act.eval, Act.put]) (by first | (simp [Act.eval]; done) | simp [Act.eval, Act.put]) (wnat_any frm hf HQ1.out.own (by simp; omega) (by have := HQ1.out.sz; omega)) ?_; rintro e w3 ⟨v3, rfl, hq1, hq2, hq3⟩; refine ⟨v3, rfl, ?_⟩; have HQ3 := Lib.hid (HQ1.out.call hq1 hq2 hq3); have e2 := HQ3.out.cell d2 HNE.out; have hz3 := HQ3.out.sz; clear hq1 hq2 hq3))
    all_goals
      go_wp2_with fail
      go_meet
      have h := HQ4.out
      rw [List.append_assoc, List.append_assoc] at h
      exact h
  case rest =>
    rename World => w3
    have HQ3 := Lib.hid hcut
    have e3 := hcut.cell (HC.out 3 _ rfl) HNE.out
    have e4 := hcut.cell (HC.out 4 _ rfl) HNE.out
    have hz3 := hcut.sz
    obtain ⟨l3, hl3⟩ : ∃ l3, l ++ ([1] ++ (natB frm ++ natB dst)) = l3 := ⟨_, rfl⟩
    have hll : l3.length ≤ 810 := by rw [← hl3]; simp; omega
    rw [hl3] at HQ3
    have HL3 := Lib.hid hl3
    clear hcut hl3 d0 d1 d2
    go_wp2_with fail
    go_cut [0] (fun v0 wx => ByQ W1 wx base v v0 (l3 ++ (natB 0 ++ natB 0)))
    case first =>
      go_region_law
        (first
          | (refine step_call2 (by rfl) 197 (fun _ _ => by kernel_rfl) _ _ _ _ (by rfl) v5 (.string ⟨#[]⟩) (by first | (simp [Act.eval]; done) | simp [Act.eval, Act.put]) (by first | (simp [Act.eval]; done) | simp [Act.eval, Act.put]) (wtext_nil HQ5.out.own (by simp [natB]; omega) (by have := HQ5.out.sz; omega)) ?_; rintro e w6 ⟨v6, rfl, hq1, hq2, hq3⟩; refine ⟨v6, rfl, ?_⟩; have HQ6 := Lib.hid (HQ5.out.call hq1 hq2 hq3); clear hq1 hq2 hq3)
          | (refine step_call2 (by rfl) 196 (fun _ _ => by kernel_rfl) _ _ _ _ (by rfl) u0 (.int .i64 0) (by first | (simp [Act.eval]; done) | simp [Act.eval, Act.put]) (by first | (simp [Act.eval]; done) | simp [Act.eval, Act.put]) (wnat_any (l := l3) 0 (by omega) (by first | exact HQ3.out.drew.own | exact HQ3.out.own) (by omega) (by first | (simp; omega) | omega)) ?_; rintro e w5 ⟨v5, rfl, hq1, hq2, hq3⟩; refine ⟨v5, rfl, ?_⟩; have HQ5 := Lib.hid (HQ3.out.drew.call hq1 hq2 hq3); have f4 := HQ5.out.cell (HC.out 4 _ rfl) HNE.out; clear hq1 hq2 hq3))
      all_goals
        go_wp2_with fail
        go_meet
        have h := HQ6.out
        rw [List.append_assoc] at h
        exact h
    case rest =>
      rename World => w6
      have HQ6 := Lib.hid hcut
      have f0 := hcut.cell (HC.out 0 _ rfl) HNE.out
      have f5 := hcut.cell (HC.out 5 _ rfl) HNE.out
      have f6 := hcut.cell (HC.out 6 _ rfl) HNE.out
      have f7 := hcut.cell (HC.out 7 _ rfl) HNE.out
      have f8 := hcut.cell (HC.out 8 _ rfl) HNE.out
      have hz6 := hcut.sz
      have hll6 : (l3 ++ (natB 0 ++ natB 0)).length ≤ 820 := by have := natB_len 0; simp; omega
      have HAV := Lib.hid (appV_flat (A := A) (c := c) n hn hcut.own (by omega) (by omega))
      clear hcut e3 e4
      go_wp2_with fail
      refine HAV.out.mono ?_
      rintro e w7 ⟨v7, rfl, hq1, hq2, hq3⟩
      have HQ7 := Lib.hid (HQ6.out.call hq1 hq2 hq3)
      clear hq1 hq2 hq3 HAV
      go_wp2_with fail
      go_ret
      have h := HQ7.out.back HW1.out
      rw [← HL3.out] at h
      have e : l ++ ([1] ++ (natB frm ++ natB dst)) ++ (natB 0 ++ natB 0) ++ encV n = l ++ encF frm dst n := by unfold encF; simp
      rw [e] at h
      exact h
/-- a letter as bytes -/
def LetterPost (frm dst n : Nat) (w : World) (e : Ending) (w' : World) : Prop := ∃ v', e = .returned (.tuple #[v', .int .i64 0]) ∧ OwnB w' w.heap.size v' (encF frm dst n) ∧ Fr (fun _ => False) w w'
set_option maxRecDepth 100000 in
set_option maxHeartbeats 4000000 in
theorem letter_flat {w : World} {c : Nat} {A : Option Addr} (frm dst n : Nat) (hf : frm < 2097152) (hd : dst < 2097152) (hn : n < 1000000) :
    Calls Tryz.prog 123 #[.agg #[.int .i64 1, .int .i64 (frm : Int), .int .i64 (dst : Int), .int .i64 0, .string ⟨#[]⟩, .int .i64 2, .int .i64 (n : Int), .string ⟨#[]⟩, .slice A 0 c]] w (LetterPost frm dst n w) := by
  have HWR := Lib.hid (show ∀ W, Calls Tryz.prog 167 #[.agg #[.int .i64 1, .int .i64 (frm : Int), .int .i64 (dst : Int), .int .i64 0, .string ⟨#[]⟩, .int .i64 2, .int .i64 (n : Int), .string ⟨#[]⟩, .slice A 0 c], .func (.func 147) #[] #[], .func (.func 168) #[] #[]] W (LetterPost frm dst n W) from fun W => by
    have HC := Lib.hid (fun V => checkL_flat (frm : Int) (dst : Int) (n : Int) (by omega) (by omega) A c V)
    go_enter Tryz.func167, Tryz.ntmps167
    go_wp2_with fail
    refine (HC.out _).mono ?_
    rintro e w1 ⟨rfl, hf1⟩
    have HF1 := Lib.hid (show Fr (fun _ => False) W w1 from ((Fr.refl _ W).alloc _).trans' hf1)
    have HCE := Lib.hid (show ∀ j u, ([.int .i64 1, .int .i64 (frm : Int), .int .i64 (dst : Int), .int .i64 0, .string ⟨#[]⟩, .int .i64 2, .int .i64 (n : Int), .string ⟨#[]⟩, .slice A 0 c] : List Value)[j]? = some u → w1.cell? ⟨W.heap.size, j, none⟩ = some u from fun j u hu => hf1.cell (by
      have := cell_newL W [.int .i64 1, .int .i64 (frm : Int), .int .i64 (dst : Int), .int .i64 0, .string ⟨#[]⟩, .int .i64 2, .int .i64 (n : Int), .string ⟨#[]⟩, .slice A 0 c] 154 W.heap.size rfl j u hu
      rw [Addr.add_lit, Nat.zero_add] at this
      exact this) (fun h => h))
    have c0 := HCE.out 0 _ rfl
    have c1 := HCE.out 1 _ rfl
    have c2 := HCE.out 2 _ rfl
    have c3 := HCE.out 3 _ rfl
    have c4 := HCE.out 4 _ rfl
    have c5 := HCE.out 5 _ rfl
    have c6 := HCE.out 6 _ rfl
    have c7 := HCE.out 7 _ rfl
    have c8 := HCE.out 8 _ rfl
    have HAL := Lib.hid (appL_flat (A := A) (c := c) (w := w1) (base := w1.heap.size) (v := .slice none 0 0) (l := []) frm dst n hf hd hn (World.ownsRow_nil _ _ _ _) (by simp) (Nat.le_refl _))
    clear hf1
    go_wp2_with fail
    refine HAL.out.mono ?_
    rintro e w2 ⟨v2, rfl, hq1, hq2, -⟩
    have HQ1 := Lib.hid hq1
    have HF2 := Lib.hid (show Fr (fun _ => False) W w2 from HF1.out.trans' (Fr.of_grown hq2 (fun k hk => by cases hk)))
    clear hq1 hq2 HAL
    go_wp2_with fail
    refine bodyPost_ret (results_two Tryz.results167 _ _) rfl ⟨v2, rfl, own_mono HQ1.out HF1.out.size, HF2.out⟩)
  go_enter Tryz.func123, Tryz.ntmps123
  go_wp2_with fail
  refine (HWR.out _).mono ?_
  rintro e w2 ⟨v2, rfl, h1, h2⟩
  have H1 := Lib.hid h1
  have H2 := Lib.hid h2
  clear h1 h2
  go_wp2_with fail
  refine bodyPost_ret (results_two Tryz.results123 _ _) rfl ⟨v2, rfl, own_mono H1.out (by simp), ((Fr.refl _ w).alloc _).trans' H2.out⟩
end Go.Proofs.YthgbcgphkddmgaaGreat
namespace Go.Proofs.YthgbcgphkddmgaaGreat
open Go.RowKit
set_option linter.unusedVariables false
set_option linter.unusedSimpArgs false
theorem info_cloneByte : (Tryz.prog.info? 5).map (fun i => (i.zero, i.size, i.bytes)) = some (some (.int .u8 0), 1, 1) := by kernel_rfl
set_option maxRecDepth 100000 in
set_option maxHeartbeats 400000 in
theorem cloneByte (A : Option Addr) (n c : Nat) (g : Nat → List Value) (w : World) (hR : Rd w 1 g A n) (hl : ∀ k, (g k).length = 1) (h1 : ∀ k u, u ∈ g k → u.oneCell' = true)
    (hA : A = none → n = 0) (hn : n * 1 ≤ 140737488355328) :
    Calls Tryz.prog 144 #[.slice A n c] w (ClonePost 5 1 n (flatC g n) w) := by
  obtain ⟨i0, hi, hz0, hz1, hz2⟩ := info_parts info_cloneByte
  have hnil := fun (w : World) => Lib.run_eql_slice_nil (P := Tryz.prog) w
  cases A with
  | none =>
    obtain rfl := hA rfl
    clear hR hl h1 hA hi hz0 hz1 hz2 hn
    go_enter Tryz.func144, Tryz.ntmps144
    go_wp2_with fail
    go_ret
    exact ⟨_, rfl, World.ownsRow_nil _ _ _ _, Below.refl _ _⟩
  | some a =>
    have hn0 : ∀ (o : Obj) j u, (flatC g n)[j]? = some u → (w.alloc o).cell? (a.add j) = some u := fun o j u hu => by
      obtain ⟨q1, q2, q3⟩ := flatC_at hl (by omega) hu
      obtain ⟨b, off, hab, hb, hc⟩ := hR (by omega)
      injection hab with hab
      subst hab
      have e : (⟨b, off, none⟩ : Addr).add j = ⟨b, off + j / 1 * 1 + j % 1, none⟩ := by
        have := Nat.div_add_mod' j 1
        unfold Addr.add
        split
        · rename_i h; subst h; simp
        · simp; omega
      rw [e, World.cell?_alloc_lt _ _ _ hb]
      exact hc _ q1 _ _ q3
    have HN := Lib.hid hn0
    have H1 := Lib.hid h1
    have HL := Lib.hid (flatC_length hl n)
    clear hR hl h1 hA hn0
    go_enter Tryz.func144, Tryz.ntmps144
    go_wp2_with (at_builtin; refine wpList_append_own _ rfl _ _ 122 rfl w.heap.size 5 i0 _ 1 1 Tryz.underlying122 hi hz0 hz1 hz2 rfl (by omega) (.slice (some ⟨w.heap.size, 0, none⟩) 0 0) 0 [] rfl (World.ownsRow_lit w #[] 0 (Nat.le_refl _) (by simp [maxLen]) rfl) a n c (flatC g n) rfl HL.out (HN.out _) (fun u hu => by obtain ⟨k, _, hk⟩ := flatC_mem hu; exact H1.out k u hk) (by unfold maxLen; omega) (by omega) (by simp) ?_; intro v1 w1 hown hgrow _; simp only [Nat.zero_add, List.nil_append] at hown)
    go_ret
    exact ⟨v1, rfl, hown, ((Below.refl _ _).alloc (Nat.le_refl _) _).grown hgrow (by simp) (by simp [Value.ownBlock])⟩

/-- a letter that holds a small number -/
structure FL where
  frm : Nat
  dst : Nat
  num : Nat
def FL.enc (x : FL) : List Nat := encF x.frm x.dst x.num
def FL.ok (x : FL) : Prop := x.frm < 2097152 ∧ x.dst < 2097152 ∧ x.num < 1000000
theorem FL.enc_len (x : FL) : 0 < x.enc.length ∧ x.enc.length ≤ 30 := by
  unfold FL.enc encF encV
  have h1 := natB_len x.frm
  have h2 := natB_len x.dst
  have h3 := natB_len (2 * x.num)
  have h4 := natB_len 0
  simp only [List.length_cons, List.length_append]
  omega
structure EnS where
  lim : Nat
  base : Nat
  want : Nat
  out : List (FL × Bool)
  inn : List FL
  due : Bool
def zFL : FL := ⟨0, 0, 0⟩
def eoN (l : List (FL × Bool)) (j : Nat) : FL × Bool := l.getD j (zFL, false)
def eiN (l : List FL) (j : Nat) : FL := l.getD j zFL
/-- bytes that lie in a block of Bd -/
def BodyIn (w : World) (Bd : Nat → Prop) (v : Value) (l : List Nat) : Prop := ∃ A c, v = .slice A l.length c ∧ l.length ≤ c ∧ c ≤ 9223372036854775807 ∧ (0 < l.length → ∃ b off, A = some ⟨b, off, none⟩ ∧ b < w.heap.size ∧ Bd b ∧ ∀ j, j < l.length → w.cell? ⟨b, off + j, none⟩ = some (.int .u8 ((l.getD j 0 : Nat) : Int)))
theorem BodyIn.fr {w w' : World} {D Bd Bd' : Nat → Prop} {v : Value} {l : List Nat} (h : BodyIn w Bd v l) (hf : Fr D w w') (hD : ∀ k, Bd k → ¬ D k) (hB : ∀ k, Bd k → k < w.heap.size → Bd' k) : BodyIn w' Bd' v l := by
  obtain ⟨A, c, e, h1, h2, h3⟩ := h
  refine ⟨A, c, e, h1, h2, fun h0 => ?_⟩
  obtain ⟨b, off, e2, hlt, hb, hc⟩ := h3 h0
  exact ⟨b, off, e2, Nat.lt_of_lt_of_le hlt hf.size, hB b hb hlt, fun j hj => hf.cell (hc j hj) (hD b hb)⟩
theorem body_of_own {w : World} {base : Nat} {v : Value} {l : List Nat} (h : OwnB w base v l) (Bd : Nat → Prop) (hB : ∀ k, v.ownBlock = some k → Bd k) : BodyIn w Bd v l := by
  obtain ⟨A, c, e, h1, h2, -⟩ := own_any h
  subst e
  refine ⟨A, c, rfl, h1, h2, fun h0 => ?_⟩
  obtain ⟨g, cap, hv, hg, hlt, -⟩ := own_form h h0
  injection hv with e1 _ e3
  subst e1
  refine ⟨g, 0, rfl, hlt, hB g rfl, fun j hj => ?_⟩
  have := World.ownsRow.cellAt h j (by omega)
  rw [Nat.zero_add, this]
  unfold encB
  rw [List.getElem?_map, List.getElem?_eq_getElem hj, List.getD_eq_getElem?_getD, List.getElem?_eq_getElem hj]
  rfl
def ClPost (Bd : Nat → Prop) (l : List Nat) (w : World) (e : Ending) (w' : World) : Prop := ∃ v', e = .returned v' ∧ OwnB w' w.heap.size v' l ∧ Fr (fun _ => False) w w'
theorem clone_body {w : World} {Bd : Nat → Prop} {v : Value} {l : List Nat} (h : BodyIn w Bd v l) (hl : l.length ≤ 1000) : Calls Tryz.prog 144 #[v] w (ClPost Bd l w) := by
  obtain ⟨A, c, rfl, h1, h2, h3⟩ := h
  have hA : A = none → l.length = 0 := fun e => by
    by_cases h0 : 0 < l.length
    · obtain ⟨b, off, e2, _⟩ := h3 h0
      rw [e] at e2
      cases e2
    · omega
  refine (cloneByte A l.length c (fun k => [.int .u8 ((l.getD k 0 : Nat) : Int)]) w (fun h0 => ?_) (fun _ => rfl) (fun k u hu => by simp at hu; subst hu; rfl) hA (by omega)).mono ?_
  · obtain ⟨b, off, e, hlt, _, hc⟩ := h3 h0
    refine ⟨b, off, e, hlt, fun i hi j u hu => ?_⟩
    match j, hu with
    | 0, hu =>
      rw [Nat.mul_one, Nat.add_zero, hc i hi]
      exact hu
  · rintro e w' ⟨v', rfl, ho, hb⟩
    refine ⟨v', rfl, ?_, Fr.of_below hb⟩
    unfold OwnB
    have : flatC (fun k => [Value.int .u8 ((l.getD k 0 : Nat) : Int)]) l.length = encB l := by
      clear h1 h2 h3 hA ho hb
      have key : ∀ n, n ≤ l.length → flatC (fun k => [Value.int .u8 ((l.getD k 0 : Nat) : Int)]) n = encB (l.take n) := fun n => by
        induction n with
        | zero => intro _; rfl
        | succ n ih =>
          intro hn
          rw [flatC, ih (by omega), List.take_add_one, List.getElem?_eq_getElem (show n < l.length by omega), List.getD_eq_getElem?_getD, List.getElem?_eq_getElem (show n < l.length by omega)]
          unfold encB
          rw [List.map_append]
          rfl
      rw [key _ (Nat.le_refl _), List.take_length]
    rw [← this]
    exact ho
def pdC (l : List (FL × Bool)) (V : Nat → Value) (j : Nat) : List Value := [V j, .bool (eoN l j).2]
theorem infoPd : (Tryz.prog.info? 190).map (fun i => (i.zero, i.size, i.bytes)) = some (some (.agg #[.slice none 0 0, .bool false]), 2, 32) := by kernel_rfl
/-- an end at block q; its rows are vo, vi; bodies lie in Bd -/
structure EndG (w : World) (q B : Nat) (Bd : Nat → Prop) (vo vi : Value) (V U : Nat → Value) (e : EnS) : Prop where
  c0 : w.cell? ⟨q, 0, none⟩ = some (.int .i64 8)
  c1 : w.cell? ⟨q, 1, none⟩ = some (.int .i64 (e.lim : Int))
  c2 : w.cell? ⟨q, 2, none⟩ = some (.int .u32 (e.base : Int))
  c3 : w.cell? ⟨q, 3, none⟩ = some (.int .u32 (e.want : Int))
  c4 : w.cell? ⟨q, 4, none⟩ = some vo
  c5 : w.cell? ⟨q, 5, none⟩ = some vi
  c6 : w.cell? ⟨q, 6, none⟩ = some (.bool e.due)
  fz : ∀ o, w.frozen? ⟨q, o, none⟩ = false
  ro : w.ownsRow B 190 2 vo e.out.length (flatC (pdC e.out V) e.out.length)
  ri : w.ownsRow B 122 1 vi e.inn.length (flatC (fun j => [U j]) e.inn.length)
  bo : ∀ j, j < e.out.length → BodyIn w Bd (V j) (eoN e.out j).1.enc
  bi : ∀ j, j < e.inn.length → BodyIn w Bd (U j) (eiN e.inn j).enc
  ap : (∀ k, vo.ownBlock = some k → k ≠ q ∧ vi.ownBlock ≠ some k) ∧ ∀ k, vi.ownBlock = some k → k ≠ q
  no : ∀ k, Bd k → k ≠ q ∧ vo.ownBlock ≠ some k ∧ vi.ownBlock ≠ some k
  bdlt : ∀ k, Bd k → k < w.heap.size
  sz : e.lim ≤ 16 ∧ e.base < 2000000000 ∧ e.want < 2000000000 ∧ e.out.length ≤ 8 ∧ e.inn.length ≤ 8
theorem EndG.lt {w : World} {q B : Nat} {Bd : Nat → Prop} {vo vi : Value} {V U : Nat → Value} {e : EnS} (h : EndG w q B Bd vo vi V U e) : q < w.heap.size := World.block_lt_of_cell? w _ h.c0
theorem EndG.fr {w w' : World} {D : Nat → Prop} {q B : Nat} {Bd : Nat → Prop} {vo vi : Value} {V U : Nat → Value} {e : EnS} (h : EndG w q B Bd vo vi V U e) (hf : Fr D w w') (hq : ¬ D q) (ho : ∀ k, vo.ownBlock = some k → ¬ D k) (hi : ∀ k, vi.ownBlock = some k → ¬ D k) (hb : ∀ k, Bd k → ¬ D k) : EndG w' q B Bd vo vi V U e :=
  ⟨hf.cell h.c0 hq, hf.cell h.c1 hq, hf.cell h.c2 hq, hf.cell h.c3 hq, hf.cell h.c4 hq, hf.cell h.c5 hq, hf.cell h.c6 hq, fun o => (hf.frozen h.lt hq).trans (h.fz o), hf.row h.ro ho, hf.row h.ri hi, fun j hj => (h.bo j hj).fr hf hb (fun _ h _ => h), fun j hj => (h.bi j hj).fr hf hb (fun _ h _ => h), h.ap, h.no, fun k hk => Nat.lt_of_lt_of_le (h.bdlt k hk) hf.size, h.sz⟩
set_option maxRecDepth 100000 in
set_option maxHeartbeats 4000000 in
theorem eput_full {w : World} {q B : Nat} {Bd Bv : Nat → Prop} {vo vi v : Value} {V U : Nat → Value} {e : EnS} {l : List Nat} (h : EndG w q B Bd vo vi V U e) (h8 : e.out.length = 8) (hv : BodyIn w Bv v l) (hl : l.length ≤ 1000) :
    Calls Tryz.prog 124 #[.pointer (some ⟨q, 0, none⟩), v] w fun e w' => e = .returned (.int .i64 9) ∧ Fr (fun _ => False) w w' := by
  obtain ⟨A, c, rfl, -, -, -⟩ := hv
  have c0 := h.c0
  have c4 := h.c4
  obtain ⟨Ao, co, rfl, -, -, -⟩ := own_any h.ro
  rw [h8] at c4
  clear h h8
  go_enter Tryz.func124, Tryz.ntmps124
  go_wp2_with fail
  go_region
  all_goals
    go_wp2_with fail
    go_ret
    exact ⟨rfl, (Fr.refl _ w).drew⟩
end Go.Proofs.YthgbcgphkddmgaaGreat
