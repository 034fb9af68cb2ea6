/- The runner of a script: how it lies, and its step. The step of a script's runner. A script's runner: Give, Late, Offer, Top. A script's runner: Run. -/
import Derived.Test.YtjjfglbcikaicaaGreatFr
import Derived.Test.YtjjfglbcikaicaaGreatInts
import Derived.Test.YtjjfglbcikaicaaGreatStepCall
import Derived.BigRegion
import Derived.Deep.RegionLaw
import Derived.Deep.DeepCutAuto
namespace Go.Proofs.YtjjfglbcikaicaaGreat
open Go.RowKit
set_option linter.unusedVariables false
structure Stp where
  kind : Int
  a : Int
  b : Int
  ok : List Int
instance : Inhabited Stp := ⟨⟨0, 0, 0, []⟩⟩
def nthS (l : List Stp) (k : Nat) : Stp := l.getD k default
structure RunS where
  pos : Nat
  kid : Int
  self : Int
  waiting : Bool
  giving : Bool
  over : Bool
  lk : Int
  ln : Int
  lt : ByteArray
structure OutS where
  kind : Int
  num : Int
  text : ByteArray
  vk : Int
  vn : Int
def eS : ByteArray := ⟨#[]⟩
def outO (k n : Int) : OutS := ⟨k, n, ⟨#[]⟩, 0, 0⟩
def refR (r : RunS) (a : Int) : Int := if a = 0 then r.self else if a = -1 then r.kid else a
/-- the name of a script -/
def nameS (a : Int) : ByteArray := ⟨#[UInt8.ofNat (48 + ((IntKind.u64.wrap a).tmod 10).toNat)]⟩
/-- a step of a script -/
def stepR (l : List Stp) (r : RunS) : RunS × OutS :=
  if l.length ≤ r.pos then ({ r with over := true, lk := 8, ln := 0, lt := ⟨#[]⟩ }, outO 8 0)
  else
    let s := nthS l r.pos
    let r1 := { r with pos := r.pos + 1 }
    if s.kind = 1 then (r1, outO 2 s.a)
    else if s.kind = 2 then (r1, ⟨3, refR r s.a, ⟨#[]⟩, 2, s.b⟩)
    else if s.kind = 3 then ({ r1 with giving := true }, ⟨4, 0, nameS s.a, 0, 0⟩)
    else if s.kind = 4 then (r1, outO 5 (refR r s.a))
    else if s.kind = 5 then (r1, outO 6 (refR r s.a))
    else if s.kind = 6 then ({ r with waiting := true, lk := 7, ln := max (-1) (min s.b 9), lt := ⟨#[]⟩ }, outO 7 (max (-1) (min s.b 9)))
    else if s.kind = 7 then ({ r1 with over := true, lk := 8, ln := 0, lt := ⟨#[]⟩ }, outO 8 0)
    else if s.kind = 8 then ({ r1 with over := true, lk := 9, ln := 0, lt := ⟨#[102]⟩ }, ⟨9, 0, ⟨#[102]⟩, 0, 0⟩)
    else if s.kind = 9 then ({ r1 with pos := ((IntKind.u64.wrap s.a).tmod l.length).toNat }, outO 1 0)
    else (r1, outO 1 0)
def outC (o : OutS) : List Value := [.int .i64 o.kind, .int .i64 o.num, .string o.text, .int .i64 o.vk, .int .i64 o.vn, .string ⟨#[]⟩, .slice none 0 0, .slice none 0 0]
def stC (l : List Stp) (vo : Nat → Value) (k : Nat) : List Value := [.int .i64 (nthS l k).kind, .int .i64 (nthS l k).a, .int .i64 (nthS l k).b, vo k]
/-- numbers that lie below base -/
def NumAt (w : World) (base : Nat) (v : Value) (l : List Int) : Prop := ∃ A c, v = .slice A l.length c ∧ l.length ≤ c ∧ c ≤ 9223372036854775807 ∧ (0 < l.length → ∃ b off, A = some ⟨b, off, none⟩ ∧ b < base ∧ ∀ j, j < l.length → w.cell? ⟨b, off + j, none⟩ = some (.int .i64 (lst l j)))
/-- a script that lies below base -/
def ScrAt (w : World) (base : Nat) (A : Option Addr) (c : Nat) (l : List Stp) (vo : Nat → Value) : Prop :=
  l.length ≤ c ∧ c ≤ 9223372036854775807 ∧ l.length ≤ 1000000 ∧ (0 < l.length → ∃ b off, A = some ⟨b, off, none⟩ ∧ b < base ∧ ∀ k, k < l.length → ∀ j u, (stC l vo k)[j]? = some u → w.cell? ⟨b, off + k * 4 + j, none⟩ = some u) ∧ ∀ k, k < l.length → NumAt w base (vo k) (nthS l k).ok
theorem NumAt.below {w w' : World} {base : Nat} {v : Value} {l : List Int} (h : NumAt w base v l) (hb : Below base w w') : NumAt w' base v l := by
  obtain ⟨A, c, e, h1, h2, h3⟩ := h
  refine ⟨A, c, e, h1, h2, fun h0 => ?_⟩
  obtain ⟨b, off, e2, hlt, hc⟩ := h3 h0
  exact ⟨b, off, e2, hlt, fun j hj => (hb.cell (p := ⟨b, _, none⟩) hlt).trans (hc j hj)⟩
theorem ScrAt.below {w w' : World} {base c : Nat} {A : Option Addr} {l : List Stp} {vo : Nat → Value} (h : ScrAt w base A c l vo) (hb : Below base w w') : ScrAt w' base A c l vo := by
  obtain ⟨h1, h2, h3, h4, h5⟩ := h
  refine ⟨h1, h2, h3, fun h0 => ?_, fun k hk => (h5 k hk).below hb⟩
  obtain ⟨b, off, e2, hlt, hc⟩ := h4 h0
  exact ⟨b, off, e2, hlt, fun k hk j u hu => (hb.cell (p := ⟨b, _, none⟩) hlt).trans (hc k hk j u hu)⟩
/-- a runner at block b -/
structure RunAt (w : World) (b : Nat) (A : Option Addr) (n c : Nat) (r : RunS) : Prop where
  c0 : w.cell? ⟨b, 0, none⟩ = some (.slice A n c)
  c1 : w.cell? ⟨b, 1, none⟩ = some (.int .i64 (r.pos : Int))
  c2 : w.cell? ⟨b, 2, none⟩ = some (.int .i64 r.kid)
  c3 : w.cell? ⟨b, 3, none⟩ = some (.int .i64 r.self)
  c4 : w.cell? ⟨b, 4, none⟩ = some (.bool r.waiting)
  c5 : w.cell? ⟨b, 5, none⟩ = some (.bool r.giving)
  c6 : w.cell? ⟨b, 6, none⟩ = some (.bool r.over)
  c7 : w.cell? ⟨b, 7, none⟩ = some (.int .i64 r.lk)
  c8 : w.cell? ⟨b, 8, none⟩ = some (.int .i64 r.ln)
  c9 : w.cell? ⟨b, 9, none⟩ = some (.string r.lt)
  c10 : w.cell? ⟨b, 10, none⟩ = some (.int .i64 0)
  c11 : w.cell? ⟨b, 11, none⟩ = some (.int .i64 0)
  c12 : w.cell? ⟨b, 12, none⟩ = some (.string ⟨#[]⟩)
  c13 : w.cell? ⟨b, 13, none⟩ = some (.slice none 0 0)
  c14 : w.cell? ⟨b, 14, none⟩ = some (.slice none 0 0)
  fz : ∀ o, w.frozen? ⟨b, o, none⟩ = false
theorem RunAt.fr {S : Nat → Prop} {w w' : World} {b n c : Nat} {A : Option Addr} {r : RunS} (h : RunAt w b A n c r) (hf : Fr S w w') (hn : ¬ S b) : RunAt w' b A n c r :=
  ⟨hf.cell h.c0 hn, hf.cell h.c1 hn, hf.cell h.c2 hn, hf.cell h.c3 hn, hf.cell h.c4 hn, hf.cell h.c5 hn, hf.cell h.c6 hn, hf.cell h.c7 hn, hf.cell h.c8 hn, hf.cell h.c9 hn, hf.cell h.c10 hn, hf.cell h.c11 hn, hf.cell h.c12 hn, hf.cell h.c13 hn, hf.cell h.c14 hn, fun o => (hf.frozen (World.block_lt_of_cell? w _ h.c0) hn).trans (h.fz o)⟩
theorem RunAt.lt {w : World} {b n c : Nat} {A : Option Addr} {r : RunS} (h : RunAt w b A n c r) : b < w.heap.size := World.block_lt_of_cell? w _ h.c0
set_option maxRecDepth 100000 in
set_option maxHeartbeats 4000000 in
theorem ref_any (b n c : Nat) (A : Option Addr) (r : RunS) (a : Int) (w : World) (H : RunAt w b A n c r) : Calls Tryz.prog 164 #[.pointer (some ⟨b, 0, none⟩), .int .i64 a] w fun e w' => e = .returned (.int .i64 (refR r a)) ∧ w' = w := by
  have c2 := H.c2
  have c3 := H.c3
  unfold refR
  by_cases h0 : a = 0
  · subst h0
    rw [if_pos rfl]
    clear H
    go_enter Tryz.func164, Tryz.ntmps164
    go_wp2_with fail
    go_ret
    exact ⟨rfl, rfl⟩
  · rw [if_neg h0]
    by_cases h1 : a = -1
    · subst h1
      rw [if_pos rfl]
      clear H
      go_enter Tryz.func164, Tryz.ntmps164
      go_wp2_with fail
      go_ret
      exact ⟨rfl, rfl⟩
    · rw [if_neg h1]
      have b0 : (a == 0) = false := by simpa using h0
      have b1 : (a == -1) = false := by simpa using h1
      clear H h0 h1
      go_enter Tryz.func164, Tryz.ntmps164
      go_wp2_with fail
      go_ret
      exact ⟨rfl, rfl⟩
end Go.Proofs.YtjjfglbcikaicaaGreat
namespace Go.Proofs.YtjjfglbcikaicaaGreat
open Go.RowKit
set_option linter.unusedVariables false
set_option linter.unusedSimpArgs false
/-- what a step leaves -/
def StepPost (l : List Stp) (r : RunS) (b : Nat) (A : Option Addr) (c : Nat) (w : World) (e : Ending) (w' : World) : Prop :=
  e = .returned (.agg (outC (stepR l r).2).toArray) ∧ RunAt w' b A l.length c (stepR l r).1 ∧ Fr (fun k => k = b) w w'
/-- the end of a step: the runner, and the result's cells in a new block -/
structure StepFin (l : List Stp) (r' : RunS) (o : OutS) (b : Nat) (A : Option Addr) (c : Nat) (w : World) (q : Nat) (W : World) : Prop where
  run : RunAt W b A l.length c r'
  fr : Fr (fun k => k = b) w W
  out : ∀ j u, (outC o)[j]? = some u → W.cell? ⟨q, j, none⟩ = some u
theorem outC_results {o : OutS} {W : World} {q : Nat} (h : ∀ j u, (outC o)[j]? = some u → W.cell? ⟨q, j, none⟩ = some u) {fn : Func} {tmps : Array Value} {s : Nat} (hr : fn.results = #[.cell s 152]) (ht : tmps.getD s undef = .pointer (some ⟨q, 0, none⟩)) : (results fn tmps).run Tryz.prog W = .ok (.agg (outC o).toArray) W := by
  rw [Array.getD_eq_getD_getElem?] at ht
  have r0 := h 0 _ rfl
  have r1 := h 1 _ rfl
  have r2 := h 2 _ rfl
  have r3 := h 3 _ rfl
  have r4 := h 4 _ rfl
  have r5 := h 5 _ rfl
  have r6 := h 6 _ rfl
  have r7 := h 7 _ rfl
  simp [results, hr, ht, go_sem, r0, r1, r2, r3, r4, r5, r6, r7, outC]
theorem step_done {l : List Stp} {r r1 : RunS} {o : OutS} {b c q : Nat} {A : Option Addr} {w W : World} {act : Act} {fn : Func} {s : Nat} (hr : fn.results = #[.cell s 152]) (ht : act.tmps.getD s undef = .pointer (some ⟨q, 0, none⟩)) (hd : act.defers = []) (F : StepFin l r1 o b A c w q W) (e : stepR l r = (r1, o)) :
    bodyPost Tryz.prog fn (StepPost l r b A c w) .ret act W :=
  bodyPost_ret (outC_results F.out hr ht) hd ⟨by rw [e], by rw [e]; exact F.run, F.fr⟩
theorem Fr.setEq {b o : Nat} {w w1 : World} (h : Fr (fun k => k = b) w w1) (u : Value) : Fr (fun k => k = b) w (w1.setCell ⟨b, o, none⟩ u) := h.set (Or.inl rfl) u
theorem Fr.setNew {S : Nat → Prop} {o : Nat} {w w1 : World} (h : Fr S w w1) (u : Value) : Fr S w (w1.setCell ⟨w.heap.size, o, none⟩ u) := h.set (Or.inr (Nat.le_refl _)) u
theorem Fr.drewN {S : Nat → Prop} {w w1 : World} (h : Fr S w w1) (n : Nat) : Fr S w (w1.drewN n) := ⟨h.os, h.tape, h.output, h.size, h.block⟩
theorem wrapI_u64 (n : Int) : IntKind.u64.wrap n = n % 18446744073709551616 := by rfl
theorem cell_set2 {W : World} {a : Addr} (v v' : Value) (h : (W.cell? a).isSome = true) : ((W.setCell a v).setCell a v').cell? a = some v' := by
  obtain ⟨u, hu⟩ := Option.isSome_iff_exists.1 h
  exact World.cell?_setCell_same _ _ _ (World.cell?_setCell_same _ _ _ hu)
theorem u64_wrap_range (a : Int) : 0 ≤ IntKind.u64.wrap a ∧ IntKind.u64.wrap a < 18446744073709551616 := by
  rw [wrapI_u64]
  omega
theorem wrap_rem (a : Int) (n : Nat) (h0 : 0 < n) (h1 : n ≤ 1000000) : wrap64 ((IntKind.u64.wrap a).tmod (n : Int)) = ((((IntKind.u64.wrap a).tmod (n : Int)).toNat : Nat) : Int) := by
  obtain ⟨g0, g1⟩ := u64_wrap_range a
  rw [Int.tmod_eq_emod_of_nonneg g0]
  have a0 := Int.emod_nonneg (IntKind.u64.wrap a) (show (n : Int) ≠ 0 by omega)
  have a1 := Int.emod_lt_of_pos (IntKind.u64.wrap a) (show (0 : Int) < n by omega)
  unfold wrap64
  omega
theorem nameS_eq (a : Int) : (IntKind.u64.wrap (48 + (IntKind.u64.wrap a).tmod 10) % 256).toNat = 48 + ((IntKind.u64.wrap a).tmod 10).toNat := by
  obtain ⟨g0, g1⟩ := u64_wrap_range a
  rw [Int.tmod_eq_emod_of_nonneg g0]
  have a0 := Int.emod_nonneg (IntKind.u64.wrap a) (show (10 : Int) ≠ 0 by omega)
  have a1 := Int.emod_lt_of_pos (IntKind.u64.wrap a) (show (0 : Int) < 10 by omega)
  generalize IntKind.u64.wrap a % 10 = y at *
  have : IntKind.u64.wrap (48 + y) = 48 + y := by rw [wrapI_u64]; omega
  omega
theorem nameS_is (a : Int) : nameS a = ⟨#[UInt8.ofNat (IntKind.u64.wrap (48 + (IntKind.u64.wrap a).tmod 10) % 256).toNat]⟩ := by
  rw [nameS_eq]
  rfl
theorem conv_one (W : World) (x : Int) (k : Nat) (hW : W.heap.size = k) : Sem.run Tryz.prog (convert 71 9 (.slice (some ⟨k, 0, none⟩) 1 1)) (W.alloc (.cells #[.int .u8 (x % 256)] 5)) = .ok (.string ⟨#[UInt8.ofNat (x % 256).toNat]⟩) (W.alloc (.cells #[.int .u8 (x % 256)] 5)) := by
  subst hW
  have h0 : 0 ≤ x % 256 := Int.emod_nonneg _ (by omega)
  have h1 : x % 256 < 256 := Int.emod_lt_of_pos _ (by omega)
  exact run_convert_bytes_back (P := Tryz.prog) (W.alloc (.cells #[.int .u8 (x % 256)] 5)) 71 9 5 ⟨W.heap.size, 0, none⟩ 1 [UInt8.ofNat (x % 256).toNat] Tryz.underlying71 Tryz.underlying5 Tryz.underlying9 (fun j hj => by
    obtain rfl : j = 0 := by simpa using hj
    have e : ((UInt8.ofNat (x % 256).toNat).toNat : Int) = x % 256 := by
      rw [UInt8.toNat_ofNat']
      omega
    simp only [List.getElem_cons_zero]
    rw [e]
    exact World.cell?_alloc_mark W #[.int .u8 (x % 256)] 5 (0, 0) 0)
theorem ref_up (b n c : Nat) (A : Option Addr) (r : RunS) (a : Int) (w : World) (H : RunAt w b A n c { r with pos := r.pos + 1 }) : Calls Tryz.prog 164 #[.pointer (some ⟨b, 0, none⟩), .int .i64 a] w fun e w' => e = .returned (.int .i64 (refR r a)) ∧ w' = w := ref_any b n c A { r with pos := r.pos + 1 } a w H
set_option maxRecDepth 100000 in
set_option maxHeartbeats 4000000 in
theorem step_end (b c : Nat) (A : Option Addr) (l : List Stp) (r : RunS) (w : World) (H : RunAt w b A l.length c r) (hp : l.length ≤ r.pos) : Calls Tryz.prog 163 #[.pointer (some ⟨b, 0, none⟩)] w (StepPost l r b A c w) := by
  have HH := Lib.hid H
  have HP := Lib.hid hp
  have c0 := H.c0
  have c1 := H.c1
  have c2 := H.c2
  have c3 := H.c3
  have c4 := H.c4
  have c5 := H.c5
  have c6 := H.c6
  have c7 := H.c7
  have c8 := H.c8
  have c9 := H.c9
  have c10 := H.c10
  have c11 := H.c11
  have c12 := H.c12
  have c13 := H.c13
  have c14 := H.c14
  have hlt := H.lt
  have fz := H.fz
  have hne : b ≠ w.heap.size := by omega
  have hne' : w.heap.size ≠ b := by omega
  have hg : decide ((r.pos : Int) ≥ (l.length : Int)) = true := decide_eq_true (by omega)
  clear H hp
  go_enter Tryz.func163, Tryz.ntmps163
  go_wp2_with fail
  go_quiet (fail)
  go_wp2_with fail
  refine step_done (q := w.heap.size) (r1 := { r with over := true, lk := 8, ln := 0, lt := ⟨#[]⟩ }) (o := outO 8 0) rfl rfl rfl ⟨?run, ?fr, ?out⟩ (by unfold stepR; rw [if_pos HP.out])
  case run => (constructor; all_goals (first | (intro o; simp [go_sem, hlt, hne, fz]; done) | (simp [go_sem, hlt, hne, hne', *]; done) | (simp [go_sem, hlt, hne, hne', *]; omega) | (rw [World.cell?_drew]; simp [go_sem, cell_set2, hlt, hne, hne', *]; done) | (simp [go_sem, cell_set2, hlt, hne, hne', *]; done) | skip))
  case fr => (repeat' first | with_reducible exact Fr.refl _ _ | (with_reducible refine Fr.setEq ?_ _) | (with_reducible refine Fr.setNew ?_ _) | with_reducible refine Fr.alloc ?_ _ | with_reducible refine Fr.drewN ?_ _ | with_reducible refine Fr.drew ?_)
  case out => (intro j u hj; rcases j with _ | _ | _ | _ | _ | _ | _ | _ | j; all_goals (simp [outC, outO] at hj); all_goals (subst hj; first | (simp [go_sem, hne, hne']; done) | (simp [go_sem, hne, hne']; omega) | (simp [go_sem, hne, hne', hn8, nameS]; done) | skip))
-- THE ARMS
set_option maxRecDepth 100000 in
set_option maxHeartbeats 4000000 in
theorem step_k1 (base b c : Nat) (A : Option Addr) (l : List Stp) (vo : Nat → Value) (r : RunS) (w : World) (H : RunAt w b A l.length c r) (HS : ScrAt w base A c l vo) (hbb : base ≤ b) (hp : r.pos < l.length) (hk : (nthS l r.pos).kind = 1) : Calls Tryz.prog 163 #[.pointer (some ⟨b, 0, none⟩)] w (StepPost l r b A c w) := by
  have HP := Lib.hid hp
  have HK := Lib.hid hk
  obtain ⟨hc1, hc2, hc3, hs, ho⟩ := HS
  obtain ⟨bs, off, rfl, hbs, hst⟩ := hs (by omega)
  have HST := Lib.hid (hst r.pos hp)
  obtain ⟨A2, c2', hvo, -, -, -⟩ := ho r.pos hp
  have s0 := HST.out 0 _ rfl
  have s1 := HST.out 1 _ rfl
  have s2 := HST.out 2 _ rfl
  have s3 := HST.out 3 _ rfl
  rw [hvo] at s3
  have c0 := H.c0
  have c1 := H.c1
  have c2 := H.c2
  have c3 := H.c3
  have c4 := H.c4
  have c5 := H.c5
  have c6 := H.c6
  have c7 := H.c7
  have c8 := H.c8
  have c9 := H.c9
  have c10 := H.c10
  have c11 := H.c11
  have c12 := H.c12
  have c13 := H.c13
  have c14 := H.c14
  have hlt := H.lt
  have fz := H.fz
  have hbs' : bs < w.heap.size := by omega
  have hne : b ≠ w.heap.size := by omega
  have hne' : w.heap.size ≠ b := by omega
  have hn4 : b ≠ w.heap.size + 1 := by omega
  have hn5 : w.heap.size + 1 ≠ b := by omega
  have hn6 : b < w.heap.size + 1 := by omega
  have hn7 : b < w.heap.size + 1 + 1 := by omega
  have hn8 : w.heap.size < w.heap.size + 1 + 1 := by omega
  have hn2 : b ≠ bs := by omega
  have hn3 : bs ≠ b := by omega
  have hg : decide ((r.pos : Int) ≥ (l.length : Int)) = false := decide_eq_false (by omega)
  have p0 : (r.pos : Int) ≤ 1000000 := by omega
  have q0 := Lib.hid (show ¬ (l.length ≤ r.pos) by omega)
  simp only [Nat.add_zero] at s0
  generalize hsx : nthS l r.pos = sx at *
  have HSX := Lib.hid hsx
  clear H hst ho hs HST hvo hsx
  rw [HK.out] at s0
  clear hk
  go_enter Tryz.func163, Tryz.ntmps163
  go_wp2_with fail
  go_quiet (fail)
  go_wp2_with fail
  go_region
  go_wp2_with fail
  all_goals
    refine step_done (q := w.heap.size) (r1 := { r with pos := r.pos + 1 }) (o := outO 2 sx.a) rfl rfl rfl ⟨?run, ?fr, ?out⟩ (by unfold stepR; rw [if_neg q0.out]; simp [HSX.out, HK.out])
    case run =>
      (constructor; all_goals (first | (intro o; simp [go_sem, hlt, hne, fz]; done) | (simp [go_sem, hlt, hne, hne', *]; done) | (simp [go_sem, hlt, hne, hne', *]; omega) | (rw [World.cell?_drew]; simp [go_sem, cell_set2, hlt, hne, hne', *]; done) | (simp [go_sem, cell_set2, hlt, hne, hne', *]; done) | skip))
    case fr => (repeat' first | with_reducible exact Fr.refl _ _ | (with_reducible refine Fr.setEq ?_ _) | (with_reducible refine Fr.setNew ?_ _) | with_reducible refine Fr.alloc ?_ _ | with_reducible refine Fr.drewN ?_ _ | with_reducible refine Fr.drew ?_)
    case out =>
      (intro j u hj; rcases j with _ | _ | _ | _ | _ | _ | _ | _ | j; all_goals (simp [outC, outO] at hj); all_goals (subst hj; first | (simp [go_sem, hne, hne']; done) | (simp [go_sem, hne, hne']; omega) | (simp [go_sem, hne, hne', hn8, nameS]; done) | skip))
set_option maxRecDepth 100000 in
set_option maxHeartbeats 4000000 in
theorem step_k2 (base b c : Nat) (A : Option Addr) (l : List Stp) (vo : Nat → Value) (r : RunS) (w : World) (H : RunAt w b A l.length c r) (HS : ScrAt w base A c l vo) (hbb : base ≤ b) (hp : r.pos < l.length) (hk : (nthS l r.pos).kind = 2) : Calls Tryz.prog 163 #[.pointer (some ⟨b, 0, none⟩)] w (StepPost l r b A c w) := by
  have HP := Lib.hid hp
  have HK := Lib.hid hk
  obtain ⟨hc1, hc2, hc3, hs, ho⟩ := HS
  obtain ⟨bs, off, rfl, hbs, hst⟩ := hs (by omega)
  have HST := Lib.hid (hst r.pos hp)
  obtain ⟨A2, c2', hvo, -, -, -⟩ := ho r.pos hp
  have s0 := HST.out 0 _ rfl
  have s1 := HST.out 1 _ rfl
  have s2 := HST.out 2 _ rfl
  have s3 := HST.out 3 _ rfl
  rw [hvo] at s3
  have c0 := H.c0
  have c1 := H.c1
  have c2 := H.c2
  have c3 := H.c3
  have c4 := H.c4
  have c5 := H.c5
  have c6 := H.c6
  have c7 := H.c7
  have c8 := H.c8
  have c9 := H.c9
  have c10 := H.c10
  have c11 := H.c11
  have c12 := H.c12
  have c13 := H.c13
  have c14 := H.c14
  have hlt := H.lt
  have fz := H.fz
  have hbs' : bs < w.heap.size := by omega
  have hne : b ≠ w.heap.size := by omega
  have hne' : w.heap.size ≠ b := by omega
  have hn4 : b ≠ w.heap.size + 1 := by omega
  have hn5 : w.heap.size + 1 ≠ b := by omega
  have hn6 : b < w.heap.size + 1 := by omega
  have hn7 : b < w.heap.size + 1 + 1 := by omega
  have hn8 : w.heap.size < w.heap.size + 1 + 1 := by omega
  have hn2 : b ≠ bs := by omega
  have hn3 : bs ≠ b := by omega
  have hg : decide ((r.pos : Int) ≥ (l.length : Int)) = false := decide_eq_false (by omega)
  have p0 : (r.pos : Int) ≤ 1000000 := by omega
  have q0 := Lib.hid (show ¬ (l.length ≤ r.pos) by omega)
  simp only [Nat.add_zero] at s0
  generalize hsx : nthS l r.pos = sx at *
  have HSX := Lib.hid hsx
  clear H hst ho hs HST hvo hsx
  rw [HK.out] at s0
  clear hk
  go_enter Tryz.func163, Tryz.ntmps163
  go_wp2_with fail
  go_quiet (fail)
  go_wp2_with fail
  go_region
  go_wp2_with fail
  go_region_law (refine step_call2 (by rfl) 164 (fun _ _ => by kernel_rfl) _ _ _ _ (by rfl) (.pointer (some ⟨b, 0, none⟩)) (.int .i64 sx.a) (by first | (simp [Act.eval]; done) | simp [Act.eval, Act.put]) (by first | (simp [Act.eval]; done) | simp [Act.eval, Act.put]) (ref_up b l.length c (some ⟨bs, off, none⟩) r sx.a _ (by (constructor; all_goals (first | (intro o; simp [go_sem, hlt, hne, fz]; done) | (simp [go_sem, hlt, hne, hne', *]; done) | (simp [go_sem, hlt, hne, hne', *]; omega) | (rw [World.cell?_drew]; simp [go_sem, cell_set2, hlt, hne, hne', *]; done) | (simp [go_sem, cell_set2, hlt, hne, hne', *]; done) | skip)))) ?_; rintro e w1 ⟨rfl, rfl⟩; refine ⟨_, rfl, ?_⟩)
  all_goals go_wp2_with fail
  all_goals
    refine step_done (q := w.heap.size) (r1 := { r with pos := r.pos + 1 }) (o := ⟨3, refR r sx.a, ⟨#[]⟩, 2, sx.b⟩) rfl rfl rfl ⟨?run, ?fr, ?out⟩ (by unfold stepR; rw [if_neg q0.out]; simp [HSX.out, HK.out])
    case run =>
      (constructor; all_goals (first | (intro o; simp [go_sem, hlt, hne, fz]; done) | (simp [go_sem, hlt, hne, hne', *]; done) | (simp [go_sem, hlt, hne, hne', *]; omega) | (rw [World.cell?_drew]; simp [go_sem, cell_set2, hlt, hne, hne', *]; done) | (simp [go_sem, cell_set2, hlt, hne, hne', *]; done) | skip))
    case fr => (repeat' first | with_reducible exact Fr.refl _ _ | (with_reducible refine Fr.setEq ?_ _) | (with_reducible refine Fr.setNew ?_ _) | with_reducible refine Fr.alloc ?_ _ | with_reducible refine Fr.drewN ?_ _ | with_reducible refine Fr.drew ?_)
    case out =>
      (intro j u hj; rcases j with _ | _ | _ | _ | _ | _ | _ | _ | j; all_goals (simp [outC, outO] at hj); all_goals (subst hj; first | (simp [go_sem, hne, hne']; done) | (simp [go_sem, hne, hne']; omega) | (simp [go_sem, hne, hne', hn8, nameS]; done) | skip))
set_option maxRecDepth 100000 in
set_option maxHeartbeats 4000000 in
theorem step_k3 (base b c : Nat) (A : Option Addr) (l : List Stp) (vo : Nat → Value) (r : RunS) (w : World) (H : RunAt w b A l.length c r) (HS : ScrAt w base A c l vo) (hbb : base ≤ b) (hp : r.pos < l.length) (hk : (nthS l r.pos).kind = 3) : Calls Tryz.prog 163 #[.pointer (some ⟨b, 0, none⟩)] w (StepPost l r b A c w) := by
  have HP := Lib.hid hp
  have HK := Lib.hid hk
  obtain ⟨hc1, hc2, hc3, hs, ho⟩ := HS
  obtain ⟨bs, off, rfl, hbs, hst⟩ := hs (by omega)
  have HST := Lib.hid (hst r.pos hp)
  obtain ⟨A2, c2', hvo, -, -, -⟩ := ho r.pos hp
  have s0 := HST.out 0 _ rfl
  have s1 := HST.out 1 _ rfl
  have s2 := HST.out 2 _ rfl
  have s3 := HST.out 3 _ rfl
  rw [hvo] at s3
  have c0 := H.c0
  have c1 := H.c1
  have c2 := H.c2
  have c3 := H.c3
  have c4 := H.c4
  have c5 := H.c5
  have c6 := H.c6
  have c7 := H.c7
  have c8 := H.c8
  have c9 := H.c9
  have c10 := H.c10
  have c11 := H.c11
  have c12 := H.c12
  have c13 := H.c13
  have c14 := H.c14
  have hlt := H.lt
  have fz := H.fz
  have hbs' : bs < w.heap.size := by omega
  have hne : b ≠ w.heap.size := by omega
  have hne' : w.heap.size ≠ b := by omega
  have hn4 : b ≠ w.heap.size + 1 := by omega
  have hn5 : w.heap.size + 1 ≠ b := by omega
  have hn6 : b < w.heap.size + 1 := by omega
  have hn7 : b < w.heap.size + 1 + 1 := by omega
  have hn8 : w.heap.size < w.heap.size + 1 + 1 := by omega
  have hn2 : b ≠ bs := by omega
  have hn3 : bs ≠ b := by omega
  have hg : decide ((r.pos : Int) ≥ (l.length : Int)) = false := decide_eq_false (by omega)
  have p0 : (r.pos : Int) ≤ 1000000 := by omega
  have q0 := Lib.hid (show ¬ (l.length ≤ r.pos) by omega)
  simp only [Nat.add_zero] at s0
  generalize hsx : nthS l r.pos = sx at *
  have HSX := Lib.hid hsx
  clear H hst ho hs HST hvo hsx
  rw [HK.out] at s0
  have hcv : ∀ (W : World) (x : Int), W.heap.size = w.heap.size + 1 + 1 → Sem.run Tryz.prog (convert 71 9 (.slice (some ⟨w.heap.size + 1 + 1, 0, none⟩) 1 1)) (W.alloc (.cells #[.int .u8 (x % 256)] 5)) = .ok (.string ⟨#[UInt8.ofNat (x % 256).toNat]⟩) (W.alloc (.cells #[.int .u8 (x % 256)] 5)) := fun W x hW => conv_one W x _ hW
  have HNM := Lib.hid (nameS_is sx.a)
  clear hk
  go_enter Tryz.func163, Tryz.ntmps163
  go_wp2_with fail
  go_quiet (fail)
  go_wp2_with fail
  go_region
  go_wp2_with fail
  clear hcv
  all_goals
    refine step_done (q := w.heap.size) (r1 := { r with pos := r.pos + 1, giving := true }) (o := ⟨4, 0, nameS sx.a, 0, 0⟩) rfl rfl rfl ⟨?run, ?fr, ?out⟩ (by unfold stepR; rw [if_neg q0.out]; simp [HSX.out, HK.out])
    case run =>
      (constructor; all_goals (first | (intro o; simp [go_sem, hlt, hne, fz]; done) | (simp [go_sem, hlt, hne, hne', *]; done) | (simp [go_sem, hlt, hne, hne', *]; omega) | (rw [World.cell?_drew]; simp [go_sem, cell_set2, hlt, hne, hne', *]; done) | (simp [go_sem, cell_set2, hlt, hne, hne', *]; done) | skip))
    case fr => (repeat' first | with_reducible exact Fr.refl _ _ | (with_reducible refine Fr.setEq ?_ _) | (with_reducible refine Fr.setNew ?_ _) | with_reducible refine Fr.alloc ?_ _ | with_reducible refine Fr.drewN ?_ _ | with_reducible refine Fr.drew ?_)
    case out =>
      rw [HNM.out]
      (intro j u hj; rcases j with _ | _ | _ | _ | _ | _ | _ | _ | j; all_goals (simp [outC, outO] at hj); all_goals (subst hj; first | (simp [go_sem, hne, hne']; done) | (simp [go_sem, hne, hne']; omega) | (simp [go_sem, hne, hne', hn8, nameS]; done) | skip))
set_option maxRecDepth 100000 in
set_option maxHeartbeats 4000000 in
theorem step_k4 (base b c : Nat) (A : Option Addr) (l : List Stp) (vo : Nat → Value) (r : RunS) (w : World) (H : RunAt w b A l.length c r) (HS : ScrAt w base A c l vo) (hbb : base ≤ b) (hp : r.pos < l.length) (hk : (nthS l r.pos).kind = 4) : Calls Tryz.prog 163 #[.pointer (some ⟨b, 0, none⟩)] w (StepPost l r b A c w) := by
  have HP := Lib.hid hp
  have HK := Lib.hid hk
  obtain ⟨hc1, hc2, hc3, hs, ho⟩ := HS
  obtain ⟨bs, off, rfl, hbs, hst⟩ := hs (by omega)
  have HST := Lib.hid (hst r.pos hp)
  obtain ⟨A2, c2', hvo, -, -, -⟩ := ho r.pos hp
  have s0 := HST.out 0 _ rfl
  have s1 := HST.out 1 _ rfl
  have s2 := HST.out 2 _ rfl
  have s3 := HST.out 3 _ rfl
  rw [hvo] at s3
  have c0 := H.c0
  have c1 := H.c1
  have c2 := H.c2
  have c3 := H.c3
  have c4 := H.c4
  have c5 := H.c5
  have c6 := H.c6
  have c7 := H.c7
  have c8 := H.c8
  have c9 := H.c9
  have c10 := H.c10
  have c11 := H.c11
  have c12 := H.c12
  have c13 := H.c13
  have c14 := H.c14
  have hlt := H.lt
  have fz := H.fz
  have hbs' : bs < w.heap.size := by omega
  have hne : b ≠ w.heap.size := by omega
  have hne' : w.heap.size ≠ b := by omega
  have hn4 : b ≠ w.heap.size + 1 := by omega
  have hn5 : w.heap.size + 1 ≠ b := by omega
  have hn6 : b < w.heap.size + 1 := by omega
  have hn7 : b < w.heap.size + 1 + 1 := by omega
  have hn8 : w.heap.size < w.heap.size + 1 + 1 := by omega
  have hn2 : b ≠ bs := by omega
  have hn3 : bs ≠ b := by omega
  have hg : decide ((r.pos : Int) ≥ (l.length : Int)) = false := decide_eq_false (by omega)
  have p0 : (r.pos : Int) ≤ 1000000 := by omega
  have q0 := Lib.hid (show ¬ (l.length ≤ r.pos) by omega)
  simp only [Nat.add_zero] at s0
  generalize hsx : nthS l r.pos = sx at *
  have HSX := Lib.hid hsx
  clear H hst ho hs HST hvo hsx
  rw [HK.out] at s0
  clear hk
  go_enter Tryz.func163, Tryz.ntmps163
  go_wp2_with fail
  go_quiet (fail)
  go_wp2_with fail
  go_region
  go_wp2_with fail
  refine (ref_up b l.length c (some ⟨bs, off, none⟩) r sx.a _ (by (constructor; all_goals (first | (intro o; simp [go_sem, hlt, hne, fz]; done) | (simp [go_sem, hlt, hne, hne', *]; done) | (simp [go_sem, hlt, hne, hne', *]; omega) | (rw [World.cell?_drew]; simp [go_sem, cell_set2, hlt, hne, hne', *]; done) | (simp [go_sem, cell_set2, hlt, hne, hne', *]; done) | skip)))).mono ?_
  rintro e w1 ⟨rfl, rfl⟩
  go_wp2_with fail
  all_goals
    refine step_done (q := w.heap.size) (r1 := { r with pos := r.pos + 1 }) (o := outO 5 (refR r sx.a)) rfl rfl rfl ⟨?run, ?fr, ?out⟩ (by unfold stepR; rw [if_neg q0.out]; simp [HSX.out, HK.out])
    case run =>
      (constructor; all_goals (first | (intro o; simp [go_sem, hlt, hne, fz]; done) | (simp [go_sem, hlt, hne, hne', *]; done) | (simp [go_sem, hlt, hne, hne', *]; omega) | (rw [World.cell?_drew]; simp [go_sem, cell_set2, hlt, hne, hne', *]; done) | (simp [go_sem, cell_set2, hlt, hne, hne', *]; done) | skip))
    case fr => (repeat' first | with_reducible exact Fr.refl _ _ | (with_reducible refine Fr.setEq ?_ _) | (with_reducible refine Fr.setNew ?_ _) | with_reducible refine Fr.alloc ?_ _ | with_reducible refine Fr.drewN ?_ _ | with_reducible refine Fr.drew ?_)
    case out =>
      (intro j u hj; rcases j with _ | _ | _ | _ | _ | _ | _ | _ | j; all_goals (simp [outC, outO] at hj); all_goals (subst hj; first | (simp [go_sem, hne, hne']; done) | (simp [go_sem, hne, hne']; omega) | (simp [go_sem, hne, hne', hn8, nameS]; done) | skip))
set_option maxRecDepth 100000 in
set_option maxHeartbeats 4000000 in
theorem step_k5 (base b c : Nat) (A : Option Addr) (l : List Stp) (vo : Nat → Value) (r : RunS) (w : World) (H : RunAt w b A l.length c r) (HS : ScrAt w base A c l vo) (hbb : base ≤ b) (hp : r.pos < l.length) (hk : (nthS l r.pos).kind = 5) : Calls Tryz.prog 163 #[.pointer (some ⟨b, 0, none⟩)] w (StepPost l r b A c w) := by
  have HP := Lib.hid hp
  have HK := Lib.hid hk
  obtain ⟨hc1, hc2, hc3, hs, ho⟩ := HS
  obtain ⟨bs, off, rfl, hbs, hst⟩ := hs (by omega)
  have HST := Lib.hid (hst r.pos hp)
  obtain ⟨A2, c2', hvo, -, -, -⟩ := ho r.pos hp
  have s0 := HST.out 0 _ rfl
  have s1 := HST.out 1 _ rfl
  have s2 := HST.out 2 _ rfl
  have s3 := HST.out 3 _ rfl
  rw [hvo] at s3
  have c0 := H.c0
  have c1 := H.c1
  have c2 := H.c2
  have c3 := H.c3
  have c4 := H.c4
  have c5 := H.c5
  have c6 := H.c6
  have c7 := H.c7
  have c8 := H.c8
  have c9 := H.c9
  have c10 := H.c10
  have c11 := H.c11
  have c12 := H.c12
  have c13 := H.c13
  have c14 := H.c14
  have hlt := H.lt
  have fz := H.fz
  have hbs' : bs < w.heap.size := by omega
  have hne : b ≠ w.heap.size := by omega
  have hne' : w.heap.size ≠ b := by omega
  have hn4 : b ≠ w.heap.size + 1 := by omega
  have hn5 : w.heap.size + 1 ≠ b := by omega
  have hn6 : b < w.heap.size + 1 := by omega
  have hn7 : b < w.heap.size + 1 + 1 := by omega
  have hn8 : w.heap.size < w.heap.size + 1 + 1 := by omega
  have hn2 : b ≠ bs := by omega
  have hn3 : bs ≠ b := by omega
  have hg : decide ((r.pos : Int) ≥ (l.length : Int)) = false := decide_eq_false (by omega)
  have p0 : (r.pos : Int) ≤ 1000000 := by omega
  have q0 := Lib.hid (show ¬ (l.length ≤ r.pos) by omega)
  simp only [Nat.add_zero] at s0
  generalize hsx : nthS l r.pos = sx at *
  have HSX := Lib.hid hsx
  clear H hst ho hs HST hvo hsx
  rw [HK.out] at s0
  clear hk
  go_enter Tryz.func163, Tryz.ntmps163
  go_wp2_with fail
  go_quiet (fail)
  go_wp2_with fail
  go_region
  go_wp2_with fail
  refine (ref_up b l.length c (some ⟨bs, off, none⟩) r sx.a _ (by (constructor; all_goals (first | (intro o; simp [go_sem, hlt, hne, fz]; done) | (simp [go_sem, hlt, hne, hne', *]; done) | (simp [go_sem, hlt, hne, hne', *]; omega) | (rw [World.cell?_drew]; simp [go_sem, cell_set2, hlt, hne, hne', *]; done) | (simp [go_sem, cell_set2, hlt, hne, hne', *]; done) | skip)))).mono ?_
  rintro e w1 ⟨rfl, rfl⟩
  go_wp2_with fail
  all_goals
    refine step_done (q := w.heap.size) (r1 := { r with pos := r.pos + 1 }) (o := outO 6 (refR r sx.a)) rfl rfl rfl ⟨?run, ?fr, ?out⟩ (by unfold stepR; rw [if_neg q0.out]; simp [HSX.out, HK.out])
    case run =>
      (constructor; all_goals (first | (intro o; simp [go_sem, hlt, hne, fz]; done) | (simp [go_sem, hlt, hne, hne', *]; done) | (simp [go_sem, hlt, hne, hne', *]; omega) | (rw [World.cell?_drew]; simp [go_sem, cell_set2, hlt, hne, hne', *]; done) | (simp [go_sem, cell_set2, hlt, hne, hne', *]; done) | skip))
    case fr => (repeat' first | with_reducible exact Fr.refl _ _ | (with_reducible refine Fr.setEq ?_ _) | (with_reducible refine Fr.setNew ?_ _) | with_reducible refine Fr.alloc ?_ _ | with_reducible refine Fr.drewN ?_ _ | with_reducible refine Fr.drew ?_)
    case out =>
      (intro j u hj; rcases j with _ | _ | _ | _ | _ | _ | _ | _ | j; all_goals (simp [outC, outO] at hj); all_goals (subst hj; first | (simp [go_sem, hne, hne']; done) | (simp [go_sem, hne, hne']; omega) | (simp [go_sem, hne, hne', hn8, nameS]; done) | skip))
set_option maxRecDepth 100000 in
set_option maxHeartbeats 4000000 in
theorem step_k6 (base b c : Nat) (A : Option Addr) (l : List Stp) (vo : Nat → Value) (r : RunS) (w : World) (H : RunAt w b A l.length c r) (HS : ScrAt w base A c l vo) (hbb : base ≤ b) (hp : r.pos < l.length) (hk : (nthS l r.pos).kind = 6) : Calls Tryz.prog 163 #[.pointer (some ⟨b, 0, none⟩)] w (StepPost l r b A c w) := by
  have HP := Lib.hid hp
  have HK := Lib.hid hk
  obtain ⟨hc1, hc2, hc3, hs, ho⟩ := HS
  obtain ⟨bs, off, rfl, hbs, hst⟩ := hs (by omega)
  have HST := Lib.hid (hst r.pos hp)
  obtain ⟨A2, c2', hvo, -, -, -⟩ := ho r.pos hp
  have s0 := HST.out 0 _ rfl
  have s1 := HST.out 1 _ rfl
  have s2 := HST.out 2 _ rfl
  have s3 := HST.out 3 _ rfl
  rw [hvo] at s3
  have c0 := H.c0
  have c1 := H.c1
  have c2 := H.c2
  have c3 := H.c3
  have c4 := H.c4
  have c5 := H.c5
  have c6 := H.c6
  have c7 := H.c7
  have c8 := H.c8
  have c9 := H.c9
  have c10 := H.c10
  have c11 := H.c11
  have c12 := H.c12
  have c13 := H.c13
  have c14 := H.c14
  have hlt := H.lt
  have fz := H.fz
  have hbs' : bs < w.heap.size := by omega
  have hne : b ≠ w.heap.size := by omega
  have hne' : w.heap.size ≠ b := by omega
  have hn4 : b ≠ w.heap.size + 1 := by omega
  have hn5 : w.heap.size + 1 ≠ b := by omega
  have hn6 : b < w.heap.size + 1 := by omega
  have hn7 : b < w.heap.size + 1 + 1 := by omega
  have hn8 : w.heap.size < w.heap.size + 1 + 1 := by omega
  have hn2 : b ≠ bs := by omega
  have hn3 : bs ≠ b := by omega
  have hg : decide ((r.pos : Int) ≥ (l.length : Int)) = false := decide_eq_false (by omega)
  have p0 : (r.pos : Int) ≤ 1000000 := by omega
  have q0 := Lib.hid (show ¬ (l.length ≤ r.pos) by omega)
  simp only [Nat.add_zero] at s0
  generalize hsx : nthS l r.pos = sx at *
  have HSX := Lib.hid hsx
  clear H hst ho hs HST hvo hsx
  rw [HK.out] at s0
  clear hk
  go_enter Tryz.func163, Tryz.ntmps163
  go_wp2_with fail
  go_quiet (fail)
  go_wp2_with fail
  go_region
  go_wp2_with fail
  go_region
  all_goals go_wp2_with fail
  all_goals
    refine step_done (q := w.heap.size) (r1 := { r with waiting := true, lk := 7, ln := max (-1) (min sx.b 9), lt := ⟨#[]⟩ }) (o := outO 7 (max (-1) (min sx.b 9))) rfl rfl rfl ⟨?run, ?fr, ?out⟩ (by unfold stepR; rw [if_neg q0.out]; simp [HSX.out, HK.out])
    case run =>
      (constructor; all_goals (first | (intro o; simp [go_sem, hlt, hne, fz]; done) | (simp [go_sem, hlt, hne, hne', *]; done) | (simp [go_sem, hlt, hne, hne', *]; omega) | (rw [World.cell?_drew]; simp [go_sem, cell_set2, hlt, hne, hne', *]; done) | (simp [go_sem, cell_set2, hlt, hne, hne', *]; done) | skip))
    case fr => (repeat' first | with_reducible exact Fr.refl _ _ | (with_reducible refine Fr.setEq ?_ _) | (with_reducible refine Fr.setNew ?_ _) | with_reducible refine Fr.alloc ?_ _ | with_reducible refine Fr.drewN ?_ _ | with_reducible refine Fr.drew ?_)
    case out =>
      (intro j u hj; rcases j with _ | _ | _ | _ | _ | _ | _ | _ | j; all_goals (simp [outC, outO] at hj); all_goals (subst hj; first | (simp [go_sem, hne, hne']; done) | (simp [go_sem, hne, hne']; omega) | (simp [go_sem, hne, hne', hn8, nameS]; done) | skip))
set_option maxRecDepth 100000 in
set_option maxHeartbeats 4000000 in
theorem step_k7 (base b c : Nat) (A : Option Addr) (l : List Stp) (vo : Nat → Value) (r : RunS) (w : World) (H : RunAt w b A l.length c r) (HS : ScrAt w base A c l vo) (hbb : base ≤ b) (hp : r.pos < l.length) (hk : (nthS l r.pos).kind = 7) : Calls Tryz.prog 163 #[.pointer (some ⟨b, 0, none⟩)] w (StepPost l r b A c w) := by
  have HP := Lib.hid hp
  have HK := Lib.hid hk
  obtain ⟨hc1, hc2, hc3, hs, ho⟩ := HS
  obtain ⟨bs, off, rfl, hbs, hst⟩ := hs (by omega)
  have HST := Lib.hid (hst r.pos hp)
  obtain ⟨A2, c2', hvo, -, -, -⟩ := ho r.pos hp
  have s0 := HST.out 0 _ rfl
  have s1 := HST.out 1 _ rfl
  have s2 := HST.out 2 _ rfl
  have s3 := HST.out 3 _ rfl
  rw [hvo] at s3
  have c0 := H.c0
  have c1 := H.c1
  have c2 := H.c2
  have c3 := H.c3
  have c4 := H.c4
  have c5 := H.c5
  have c6 := H.c6
  have c7 := H.c7
  have c8 := H.c8
  have c9 := H.c9
  have c10 := H.c10
  have c11 := H.c11
  have c12 := H.c12
  have c13 := H.c13
  have c14 := H.c14
  have hlt := H.lt
  have fz := H.fz
  have hbs' : bs < w.heap.size := by omega
  have hne : b ≠ w.heap.size := by omega
  have hne' : w.heap.size ≠ b := by omega
  have hn4 : b ≠ w.heap.size + 1 := by omega
  have hn5 : w.heap.size + 1 ≠ b := by omega
  have hn6 : b < w.heap.size + 1 := by omega
  have hn7 : b < w.heap.size + 1 + 1 := by omega
  have hn8 : w.heap.size < w.heap.size + 1 + 1 := by omega
  have hn2 : b ≠ bs := by omega
  have hn3 : bs ≠ b := by omega
  have hg : decide ((r.pos : Int) ≥ (l.length : Int)) = false := decide_eq_false (by omega)
  have p0 : (r.pos : Int) ≤ 1000000 := by omega
  have q0 := Lib.hid (show ¬ (l.length ≤ r.pos) by omega)
  simp only [Nat.add_zero] at s0
  generalize hsx : nthS l r.pos = sx at *
  have HSX := Lib.hid hsx
  clear H hst ho hs HST hvo hsx
  rw [HK.out] at s0
  clear hk
  go_enter Tryz.func163, Tryz.ntmps163
  go_wp2_with fail
  go_quiet (fail)
  go_wp2_with fail
  go_region
  go_wp2_with fail
  all_goals
    refine step_done (q := w.heap.size) (r1 := { r with pos := r.pos + 1, over := true, lk := 8, ln := 0, lt := ⟨#[]⟩ }) (o := outO 8 0) rfl rfl rfl ⟨?run, ?fr, ?out⟩ (by unfold stepR; rw [if_neg q0.out]; simp [HSX.out, HK.out])
    case run =>
      (constructor; all_goals (first | (intro o; simp [go_sem, hlt, hne, fz]; done) | (simp [go_sem, hlt, hne, hne', *]; done) | (simp [go_sem, hlt, hne, hne', *]; omega) | (rw [World.cell?_drew]; simp [go_sem, cell_set2, hlt, hne, hne', *]; done) | (simp [go_sem, cell_set2, hlt, hne, hne', *]; done) | skip))
    case fr => (repeat' first | with_reducible exact Fr.refl _ _ | (with_reducible refine Fr.setEq ?_ _) | (with_reducible refine Fr.setNew ?_ _) | with_reducible refine Fr.alloc ?_ _ | with_reducible refine Fr.drewN ?_ _ | with_reducible refine Fr.drew ?_)
    case out =>
      (intro j u hj; rcases j with _ | _ | _ | _ | _ | _ | _ | _ | j; all_goals (simp [outC, outO] at hj); all_goals (subst hj; first | (simp [go_sem, hne, hne']; done) | (simp [go_sem, hne, hne']; omega) | (simp [go_sem, hne, hne', hn8, nameS]; done) | skip))
set_option maxRecDepth 100000 in
set_option maxHeartbeats 4000000 in
theorem step_k8 (base b c : Nat) (A : Option Addr) (l : List Stp) (vo : Nat → Value) (r : RunS) (w : World) (H : RunAt w b A l.length c r) (HS : ScrAt w base A c l vo) (hbb : base ≤ b) (hp : r.pos < l.length) (hk : (nthS l r.pos).kind = 8) : Calls Tryz.prog 163 #[.pointer (some ⟨b, 0, none⟩)] w (StepPost l r b A c w) := by
  have HP := Lib.hid hp
  have HK := Lib.hid hk
  obtain ⟨hc1, hc2, hc3, hs, ho⟩ := HS
  obtain ⟨bs, off, rfl, hbs, hst⟩ := hs (by omega)
  have HST := Lib.hid (hst r.pos hp)
  obtain ⟨A2, c2', hvo, -, -, -⟩ := ho r.pos hp
  have s0 := HST.out 0 _ rfl
  have s1 := HST.out 1 _ rfl
  have s2 := HST.out 2 _ rfl
  have s3 := HST.out 3 _ rfl
  rw [hvo] at s3
  have c0 := H.c0
  have c1 := H.c1
  have c2 := H.c2
  have c3 := H.c3
  have c4 := H.c4
  have c5 := H.c5
  have c6 := H.c6
  have c7 := H.c7
  have c8 := H.c8
  have c9 := H.c9
  have c10 := H.c10
  have c11 := H.c11
  have c12 := H.c12
  have c13 := H.c13
  have c14 := H.c14
  have hlt := H.lt
  have fz := H.fz
  have hbs' : bs < w.heap.size := by omega
  have hne : b ≠ w.heap.size := by omega
  have hne' : w.heap.size ≠ b := by omega
  have hn4 : b ≠ w.heap.size + 1 := by omega
  have hn5 : w.heap.size + 1 ≠ b := by omega
  have hn6 : b < w.heap.size + 1 := by omega
  have hn7 : b < w.heap.size + 1 + 1 := by omega
  have hn8 : w.heap.size < w.heap.size + 1 + 1 := by omega
  have hn2 : b ≠ bs := by omega
  have hn3 : bs ≠ b := by omega
  have hg : decide ((r.pos : Int) ≥ (l.length : Int)) = false := decide_eq_false (by omega)
  have p0 : (r.pos : Int) ≤ 1000000 := by omega
  have q0 := Lib.hid (show ¬ (l.length ≤ r.pos) by omega)
  simp only [Nat.add_zero] at s0
  generalize hsx : nthS l r.pos = sx at *
  have HSX := Lib.hid hsx
  clear H hst ho hs HST hvo hsx
  rw [HK.out] at s0
  clear hk
  go_enter Tryz.func163, Tryz.ntmps163
  go_wp2_with fail
  go_quiet (fail)
  go_wp2_with fail
  go_region
  go_wp2_with fail
  all_goals
    refine step_done (q := w.heap.size) (r1 := { r with pos := r.pos + 1, over := true, lk := 9, ln := 0, lt := ⟨#[102]⟩ }) (o := ⟨9, 0, ⟨#[102]⟩, 0, 0⟩) rfl rfl rfl ⟨?run, ?fr, ?out⟩ (by unfold stepR; rw [if_neg q0.out]; simp [HSX.out, HK.out])
    case run =>
      (constructor; all_goals (first | (intro o; simp [go_sem, hlt, hne, fz]; done) | (simp [go_sem, hlt, hne, hne', *]; done) | (simp [go_sem, hlt, hne, hne', *]; omega) | (rw [World.cell?_drew]; simp [go_sem, cell_set2, hlt, hne, hne', *]; done) | (simp [go_sem, cell_set2, hlt, hne, hne', *]; done) | skip))
    case fr => (repeat' first | with_reducible exact Fr.refl _ _ | (with_reducible refine Fr.setEq ?_ _) | (with_reducible refine Fr.setNew ?_ _) | with_reducible refine Fr.alloc ?_ _ | with_reducible refine Fr.drewN ?_ _ | with_reducible refine Fr.drew ?_)
    case out =>
      (intro j u hj; rcases j with _ | _ | _ | _ | _ | _ | _ | _ | j; all_goals (simp [outC, outO] at hj); all_goals (subst hj; first | (simp [go_sem, hne, hne']; done) | (simp [go_sem, hne, hne']; omega) | (simp [go_sem, hne, hne', hn8, nameS]; done) | skip))
set_option maxRecDepth 100000 in
set_option maxHeartbeats 4000000 in
theorem step_k9 (base b c : Nat) (A : Option Addr) (l : List Stp) (vo : Nat → Value) (r : RunS) (w : World) (H : RunAt w b A l.length c r) (HS : ScrAt w base A c l vo) (hbb : base ≤ b) (hp : r.pos < l.length) (hk : (nthS l r.pos).kind = 9) : Calls Tryz.prog 163 #[.pointer (some ⟨b, 0, none⟩)] w (StepPost l r b A c w) := by
  have HP := Lib.hid hp
  have HK := Lib.hid hk
  obtain ⟨hc1, hc2, hc3, hs, ho⟩ := HS
  obtain ⟨bs, off, rfl, hbs, hst⟩ := hs (by omega)
  have HST := Lib.hid (hst r.pos hp)
  obtain ⟨A2, c2', hvo, -, -, -⟩ := ho r.pos hp
  have s0 := HST.out 0 _ rfl
  have s1 := HST.out 1 _ rfl
  have s2 := HST.out 2 _ rfl
  have s3 := HST.out 3 _ rfl
  rw [hvo] at s3
  have c0 := H.c0
  have c1 := H.c1
  have c2 := H.c2
  have c3 := H.c3
  have c4 := H.c4
  have c5 := H.c5
  have c6 := H.c6
  have c7 := H.c7
  have c8 := H.c8
  have c9 := H.c9
  have c10 := H.c10
  have c11 := H.c11
  have c12 := H.c12
  have c13 := H.c13
  have c14 := H.c14
  have hlt := H.lt
  have fz := H.fz
  have hbs' : bs < w.heap.size := by omega
  have hne : b ≠ w.heap.size := by omega
  have hne' : w.heap.size ≠ b := by omega
  have hn4 : b ≠ w.heap.size + 1 := by omega
  have hn5 : w.heap.size + 1 ≠ b := by omega
  have hn6 : b < w.heap.size + 1 := by omega
  have hn7 : b < w.heap.size + 1 + 1 := by omega
  have hn8 : w.heap.size < w.heap.size + 1 + 1 := by omega
  have hn2 : b ≠ bs := by omega
  have hn3 : bs ≠ b := by omega
  have hg : decide ((r.pos : Int) ≥ (l.length : Int)) = false := decide_eq_false (by omega)
  have p0 : (r.pos : Int) ≤ 1000000 := by omega
  have q0 := Lib.hid (show ¬ (l.length ≤ r.pos) by omega)
  simp only [Nat.add_zero] at s0
  generalize hsx : nthS l r.pos = sx at *
  have HSX := Lib.hid hsx
  clear H hst ho hs HST hvo hsx
  rw [HK.out] at s0
  clear hk
  go_enter Tryz.func163, Tryz.ntmps163
  go_wp2_with fail
  go_quiet (fail)
  go_wp2_with fail
  go_region
  go_wp2_with fail
  go_region
  all_goals go_wp2_with fail
  all_goals
    refine step_done (q := w.heap.size) (r1 := { r with pos := ((IntKind.u64.wrap sx.a).tmod l.length).toNat }) (o := outO 1 0) rfl rfl rfl ⟨?run, ?fr, ?out⟩ (by unfold stepR; rw [if_neg q0.out]; simp [HSX.out, HK.out])
    case run =>
      have hw := Lib.hid (wrap_rem sx.a l.length (by omega) (by omega))
      rw [hw.out]
      (constructor; all_goals (first | (intro o; simp [go_sem, hlt, hne, fz]; done) | (simp [go_sem, hlt, hne, hne', *]; done) | (simp [go_sem, hlt, hne, hne', *]; omega) | (rw [World.cell?_drew]; simp [go_sem, cell_set2, hlt, hne, hne', *]; done) | (simp [go_sem, cell_set2, hlt, hne, hne', *]; done) | skip))
    case fr => (repeat' first | with_reducible exact Fr.refl _ _ | (with_reducible refine Fr.setEq ?_ _) | (with_reducible refine Fr.setNew ?_ _) | with_reducible refine Fr.alloc ?_ _ | with_reducible refine Fr.drewN ?_ _ | with_reducible refine Fr.drew ?_)
    case out =>
      (intro j u hj; rcases j with _ | _ | _ | _ | _ | _ | _ | _ | j; all_goals (simp [outC, outO] at hj); all_goals (subst hj; first | (simp [go_sem, hne, hne']; done) | (simp [go_sem, hne, hne']; omega) | (simp [go_sem, hne, hne', hn8, nameS]; done) | skip))
set_option maxRecDepth 100000 in
set_option maxHeartbeats 4000000 in
theorem step_k0 (base b c : Nat) (A : Option Addr) (l : List Stp) (vo : Nat → Value) (r : RunS) (w : World) (H : RunAt w b A l.length c r) (HS : ScrAt w base A c l vo) (hbb : base ≤ b) (hp : r.pos < l.length) (hk : ∀ k : Int, 1 ≤ k → k ≤ 9 → (nthS l r.pos).kind ≠ k) : Calls Tryz.prog 163 #[.pointer (some ⟨b, 0, none⟩)] w (StepPost l r b A c w) := by
  have HP := Lib.hid hp
  have HK := Lib.hid hk
  obtain ⟨hc1, hc2, hc3, hs, ho⟩ := HS
  obtain ⟨bs, off, rfl, hbs, hst⟩ := hs (by omega)
  have HST := Lib.hid (hst r.pos hp)
  obtain ⟨A2, c2', hvo, -, -, -⟩ := ho r.pos hp
  have s0 := HST.out 0 _ rfl
  have s1 := HST.out 1 _ rfl
  have s2 := HST.out 2 _ rfl
  have s3 := HST.out 3 _ rfl
  rw [hvo] at s3
  have c0 := H.c0
  have c1 := H.c1
  have c2 := H.c2
  have c3 := H.c3
  have c4 := H.c4
  have c5 := H.c5
  have c6 := H.c6
  have c7 := H.c7
  have c8 := H.c8
  have c9 := H.c9
  have c10 := H.c10
  have c11 := H.c11
  have c12 := H.c12
  have c13 := H.c13
  have c14 := H.c14
  have hlt := H.lt
  have fz := H.fz
  have hbs' : bs < w.heap.size := by omega
  have hne : b ≠ w.heap.size := by omega
  have hne' : w.heap.size ≠ b := by omega
  have hn4 : b ≠ w.heap.size + 1 := by omega
  have hn5 : w.heap.size + 1 ≠ b := by omega
  have hn6 : b < w.heap.size + 1 := by omega
  have hn7 : b < w.heap.size + 1 + 1 := by omega
  have hn8 : w.heap.size < w.heap.size + 1 + 1 := by omega
  have hn2 : b ≠ bs := by omega
  have hn3 : bs ≠ b := by omega
  have hg : decide ((r.pos : Int) ≥ (l.length : Int)) = false := decide_eq_false (by omega)
  have p0 : (r.pos : Int) ≤ 1000000 := by omega
  have q0 := Lib.hid (show ¬ (l.length ≤ r.pos) by omega)
  simp only [Nat.add_zero] at s0
  generalize hsx : nthS l r.pos = sx at *
  have HSX := Lib.hid hsx
  clear H hst ho hs HST hvo hsx
  have e1 : (sx.kind == 1) = false := by have := HK.out 1 (by omega) (by omega); simpa using this
  have e2 : (sx.kind == 2) = false := by have := HK.out 2 (by omega) (by omega); simpa using this
  have e3 : (sx.kind == 3) = false := by have := HK.out 3 (by omega) (by omega); simpa using this
  have e4 : (sx.kind == 4) = false := by have := HK.out 4 (by omega) (by omega); simpa using this
  have e5 : (sx.kind == 5) = false := by have := HK.out 5 (by omega) (by omega); simpa using this
  have e6 : (sx.kind == 6) = false := by have := HK.out 6 (by omega) (by omega); simpa using this
  have e7 : (sx.kind == 7) = false := by have := HK.out 7 (by omega) (by omega); simpa using this
  have e8 : (sx.kind == 8) = false := by have := HK.out 8 (by omega) (by omega); simpa using this
  have e9 : (sx.kind == 9) = false := by have := HK.out 9 (by omega) (by omega); simpa using this
  clear hk
  go_enter Tryz.func163, Tryz.ntmps163
  go_wp2_with fail
  go_quiet (fail)
  go_wp2_with fail
  go_region
  go_wp2_with fail
  all_goals
    refine step_done (q := w.heap.size) (r1 := { r with pos := r.pos + 1 }) (o := outO 1 0) rfl rfl rfl ⟨?run, ?fr, ?out⟩ (by unfold stepR; rw [if_neg q0.out]; simp [HSX.out, HK.out 1 (by omega) (by omega), HK.out 2 (by omega) (by omega), HK.out 3 (by omega) (by omega), HK.out 4 (by omega) (by omega), HK.out 5 (by omega) (by omega), HK.out 6 (by omega) (by omega), HK.out 7 (by omega) (by omega), HK.out 8 (by omega) (by omega), HK.out 9 (by omega) (by omega)])
    case run =>
      (constructor; all_goals (first | (intro o; simp [go_sem, hlt, hne, fz]; done) | (simp [go_sem, hlt, hne, hne', *]; done) | (simp [go_sem, hlt, hne, hne', *]; omega) | (rw [World.cell?_drew]; simp [go_sem, cell_set2, hlt, hne, hne', *]; done) | (simp [go_sem, cell_set2, hlt, hne, hne', *]; done) | skip))
    case fr => (repeat' first | with_reducible exact Fr.refl _ _ | (with_reducible refine Fr.setEq ?_ _) | (with_reducible refine Fr.setNew ?_ _) | with_reducible refine Fr.alloc ?_ _ | with_reducible refine Fr.drewN ?_ _ | with_reducible refine Fr.drew ?_)
    case out =>
      (intro j u hj; rcases j with _ | _ | _ | _ | _ | _ | _ | _ | j; all_goals (simp [outC, outO] at hj); all_goals (subst hj; first | (simp [go_sem, hne, hne']; done) | (simp [go_sem, hne, hne']; omega) | (simp [go_sem, hne, hne', hn8, nameS]; done) | skip))
/-- a step of a script's runner -/
theorem step_any (base b c : Nat) (A : Option Addr) (l : List Stp) (vo : Nat → Value) (r : RunS) (w : World) (H : RunAt w b A l.length c r) (HS : ScrAt w base A c l vo) (hbb : base ≤ b) : Calls Tryz.prog 163 #[.pointer (some ⟨b, 0, none⟩)] w (StepPost l r b A c w) := by
  by_cases hp : r.pos < l.length
  · by_cases h1 : (nthS l r.pos).kind = 1
    · exact step_k1 base b c A l vo r w H HS hbb hp h1
    by_cases h2 : (nthS l r.pos).kind = 2
    · exact step_k2 base b c A l vo r w H HS hbb hp h2
    by_cases h3 : (nthS l r.pos).kind = 3
    · exact step_k3 base b c A l vo r w H HS hbb hp h3
    by_cases h4 : (nthS l r.pos).kind = 4
    · exact step_k4 base b c A l vo r w H HS hbb hp h4
    by_cases h5 : (nthS l r.pos).kind = 5
    · exact step_k5 base b c A l vo r w H HS hbb hp h5
    by_cases h6 : (nthS l r.pos).kind = 6
    · exact step_k6 base b c A l vo r w H HS hbb hp h6
    by_cases h7 : (nthS l r.pos).kind = 7
    · exact step_k7 base b c A l vo r w H HS hbb hp h7
    by_cases h8 : (nthS l r.pos).kind = 8
    · exact step_k8 base b c A l vo r w H HS hbb hp h8
    by_cases h9 : (nthS l r.pos).kind = 9
    · exact step_k9 base b c A l vo r w H HS hbb hp h9
    exact step_k0 base b c A l vo r w H HS hbb hp (fun k a1 a2 e => by
      obtain rfl | rfl | rfl | rfl | rfl | rfl | rfl | rfl | rfl : k = 1 ∨ k = 2 ∨ k = 3 ∨ k = 4 ∨ k = 5 ∨ k = 6 ∨ k = 7 ∨ k = 8 ∨ k = 9 := by omega
      all_goals contradiction)
  · exact step_end b c A l r w H (by omega)
end Go.Proofs.YtjjfglbcikaicaaGreat
namespace Go.Proofs.YtjjfglbcikaicaaGreat
open Go.RowKit
set_option linter.unusedVariables false
set_option linter.unusedSimpArgs false
def giveR (r : RunS) (x : Int) : RunS := if r.giving then { r with giving := false, kid := x } else r
def lateR (r : RunS) : RunS := if r.waiting && decide (0 ≤ r.ln) then { r with waiting := false, pos := r.pos + 1 } else r
def offerR (l : List Stp) (r : RunS) (k x : Int) : RunS × Bool :=
  if r.waiting then
    if (nthS l r.pos).ok = [] ∨ (k = 2 ∧ x ∈ (nthS l r.pos).ok) then ({ r with waiting := false, pos := r.pos + 1 }, true) else (r, false)
  else (r, false)
theorem results_two {P : Program} {fn : Func} {a b : Nat} (h : fn.results = #[.tmp a, .tmp b]) (tmps : Array Value) (w : World) : (results fn tmps).run P w = .ok (.tuple #[tmps.getD a undef, tmps.getD b undef]) w := by
  simp [results, h]
set_option maxRecDepth 100000 in
set_option maxHeartbeats 4000000 in
theorem give_any (b n c : Nat) (A A2 : Option Addr) (n2 c2 : Nat) (r : RunS) (k x : Int) (t : ByteArray) (w : World) (H : RunAt w b A n c r) : Calls Tryz.prog 158 #[.pointer (some ⟨b, 0, none⟩), .agg #[.int .i64 k, .int .i64 x, .string t, .slice A2 n2 c2]] w fun e w' => e = .returned (.tuple #[]) ∧ RunAt w' b A n c (giveR r x) ∧ Fr (fun k => k = b) w w' := by
  have HH := Lib.hid H
  have c0 := H.c0
  have c1 := H.c1
  have c02 := H.c2
  have c3 := H.c3
  have c4 := H.c4
  have c5 := H.c5
  have c6 := H.c6
  have c7 := H.c7
  have c8 := H.c8
  have c9 := H.c9
  have c10 := H.c10
  have c11 := H.c11
  have c12 := H.c12
  have c13 := H.c13
  have c14 := H.c14
  have hlt := H.lt
  have fz := H.fz
  have hne : b ≠ w.heap.size := by omega
  have hne' : w.heap.size ≠ b := by omega
  clear H
  rcases hgv : r.giving with _ | _
  · have HE := Lib.hid (show giveR r x = r by unfold giveR; simp [hgv])
    rw [hgv] at c5
    clear hgv
    go_enter Tryz.func158, Tryz.ntmps158
    go_wp2_with fail
    refine bodyPost_end (results_none rfl _ _ _) rfl ⟨rfl, ?_, ?_⟩
    · rw [HE.out]
      exact HH.out.fr (S := fun _ => False) ((Fr.refl _ w).alloc _) (fun h => h)
    · exact (Fr.refl _ w).alloc _
  · have HE := Lib.hid (show giveR r x = { r with giving := false, kid := x } by unfold giveR; simp [hgv])
    rw [hgv] at c5
    clear hgv
    go_enter Tryz.func158, Tryz.ntmps158
    go_wp2_with fail
    go_region
    all_goals
      go_wp2_with fail
      refine bodyPost_end (results_none rfl _ _ _) rfl ⟨rfl, ?_, ?_⟩
      · rw [HE.out]
        (constructor; all_goals (first | (intro o; simp [go_sem, hlt, hne, fz]; done) | (simp [go_sem, hlt, hne, hne', *]; done) | (simp [go_sem, hlt, hne, hne', *]; omega) | (rw [World.cell?_drew]; simp [go_sem, cell_set2, hlt, hne, hne', *]; done) | (simp [go_sem, cell_set2, hlt, hne, hne', *]; done) | skip))
      · (repeat' first | with_reducible exact Fr.refl _ _ | (with_reducible refine Fr.setEq ?_ _) | (with_reducible refine Fr.setNew ?_ _) | with_reducible refine Fr.alloc ?_ _ | with_reducible refine Fr.drewN ?_ _ | with_reducible refine Fr.drew ?_)
set_option maxRecDepth 100000 in
set_option maxHeartbeats 4000000 in
theorem late_any (b n c : Nat) (A : Option Addr) (r : RunS) (w : World) (H : RunAt w b A n c r) (hp : r.pos ≤ 1000000) : Calls Tryz.prog 159 #[.pointer (some ⟨b, 0, none⟩)] w fun e w' => e = .returned (.tuple #[]) ∧ RunAt w' b A n c (lateR r) ∧ Fr (fun k => k = b) w w' := by
  have HH := Lib.hid H
  have c0 := H.c0
  have c1 := H.c1
  have c2 := H.c2
  have c3 := H.c3
  have c4 := H.c4
  have c5 := H.c5
  have c6 := H.c6
  have c7 := H.c7
  have c8 := H.c8
  have c9 := H.c9
  have c10 := H.c10
  have c11 := H.c11
  have c12 := H.c12
  have c13 := H.c13
  have c14 := H.c14
  have hlt := H.lt
  have fz := H.fz
  have hne : b ≠ w.heap.size := by omega
  have hne' : w.heap.size ≠ b := by omega
  clear H
  rcases hgv : r.waiting with _ | _
  · have HE := Lib.hid (show lateR r = r by unfold lateR; simp [hgv])
    rw [hgv] at c4
    clear hgv
    go_enter Tryz.func159, Tryz.ntmps159
    go_wp2_with fail
    refine bodyPost_end (results_none rfl _ _ _) rfl ⟨rfl, ?_, Fr.refl _ _⟩
    rw [HE.out]
    exact HH.out
  · by_cases h0 : 0 ≤ r.ln
    · have HE := Lib.hid (show lateR r = { r with waiting := false, pos := r.pos + 1 } by unfold lateR; simp [hgv, h0])
      rw [hgv] at c4
      clear hgv
      go_enter Tryz.func159, Tryz.ntmps159
      go_wp2_with fail
      refine bodyPost_end (results_none rfl _ _ _) rfl ⟨rfl, ?_, ?_⟩
      · rw [HE.out]
        (constructor; all_goals (first | (intro o; simp [go_sem, hlt, hne, fz]; done) | (simp [go_sem, hlt, hne, hne', *]; done) | (simp [go_sem, hlt, hne, hne', *]; omega) | (rw [World.cell?_drew]; simp [go_sem, cell_set2, hlt, hne, hne', *]; done) | (simp [go_sem, cell_set2, hlt, hne, hne', *]; done) | skip))
      · (repeat' first | with_reducible exact Fr.refl _ _ | (with_reducible refine Fr.setEq ?_ _) | (with_reducible refine Fr.setNew ?_ _) | with_reducible refine Fr.alloc ?_ _ | with_reducible refine Fr.drewN ?_ _ | with_reducible refine Fr.drew ?_)
    · have HE := Lib.hid (show lateR r = r by unfold lateR; simp [hgv, h0])
      rw [hgv] at c4
      clear hgv
      go_enter Tryz.func159, Tryz.ntmps159
      go_wp2_with fail
      refine bodyPost_end (results_none rfl _ _ _) rfl ⟨rfl, ?_, Fr.refl _ _⟩
      rw [HE.out]
      exact HH.out
theorem mem_lst {l : List Int} {i : Nat} (h : i < l.length) : lst l i ∈ l := by
  unfold lst
  rw [List.getD_eq_getElem?_getD, List.getElem?_eq_getElem h]
  exact List.getElem_mem h
theorem lst_mem {l : List Int} {x : Int} (h : x ∈ l) : ∃ j, j < l.length ∧ x = lst l j := by
  obtain ⟨j, hj, e⟩ := List.getElem_of_mem h
  refine ⟨j, hj, ?_⟩
  unfold lst
  rw [List.getD_eq_getElem?_getD, List.getElem?_eq_getElem hj]
  exact e.symm
set_option maxRecDepth 100000 in
set_option maxHeartbeats 4000000 in
theorem offer_no (b n c : Nat) (A A2 : Option Addr) (n2 c2 : Nat) (r : RunS) (k x : Int) (t : ByteArray) (w : World) (H : RunAt w b A n c r) (hgv : r.waiting = false) : Calls Tryz.prog 160 #[.pointer (some ⟨b, 0, none⟩), .agg #[.int .i64 k, .int .i64 x, .string t, .slice A2 n2 c2]] w fun e w' => e = .returned (.bool false) ∧ RunAt w' b A n c r ∧ Fr (fun k => k = b) w w' := by
  have HH := Lib.hid H
  have c0 := H.c0
  have c1 := H.c1
  have c2 := H.c2
  have c3 := H.c3
  have c4 := H.c4
  have c5 := H.c5
  have c6 := H.c6
  have c7 := H.c7
  have c8 := H.c8
  have c9 := H.c9
  have c10 := H.c10
  have c11 := H.c11
  have c12 := H.c12
  have c13 := H.c13
  have c14 := H.c14
  have hlt := H.lt
  have fz := H.fz
  have hne : b ≠ w.heap.size := by omega
  have hne' : w.heap.size ≠ b := by omega
  clear H
  rw [hgv] at c4
  clear hgv
  go_enter Tryz.func160, Tryz.ntmps160
  go_wp2_with fail
  go_ret
  exact ⟨rfl, HH.out.fr (S := fun _ => False) ((Fr.refl _ w).alloc _) (fun h => h), (Fr.refl _ w).alloc _⟩
set_option maxRecDepth 100000 in
set_option maxHeartbeats 4000000 in
theorem offer_yes (base b c : Nat) (A A2 : Option Addr) (n2 c2' : Nat) (l : List Stp) (vo : Nat → Value) (r : RunS) (k x : Int) (t : ByteArray) (w : World) (H : RunAt w b A l.length c r) (HS : ScrAt w base A c l vo) (hbb : base ≤ b) (hgv : r.waiting = true) (hp : r.pos < l.length) : Calls Tryz.prog 160 #[.pointer (some ⟨b, 0, none⟩), .agg #[.int .i64 k, .int .i64 x, .string t, .slice A2 n2 c2']] w fun e w' => e = .returned (.bool (offerR l r k x).2) ∧ RunAt w' b A l.length c (offerR l r k x).1 ∧ Fr (fun k => k = b) w w' := by
  have HP := Lib.hid hp
  have HH := Lib.hid H
  obtain ⟨hc1, hc2, hc3, hs, ho⟩ := HS
  obtain ⟨bs, off, rfl, hbs, hst⟩ := hs (by omega)
  have s3 := hst r.pos hp 3 _ rfl
  obtain ⟨Ao, co, hvo, ho1, ho2, hoc⟩ := ho r.pos hp
  rw [hvo] at s3
  have HOC := Lib.hid hoc
  have c0 := H.c0
  have c1 := H.c1
  have c2 := H.c2
  have c3 := H.c3
  have c4 := H.c4
  have c5 := H.c5
  have c6 := H.c6
  have c7 := H.c7
  have c8 := H.c8
  have c9 := H.c9
  have c10 := H.c10
  have c11 := H.c11
  have c12 := H.c12
  have c13 := H.c13
  have c14 := H.c14
  have hlt := H.lt
  have fz := H.fz
  have hne : b ≠ w.heap.size := by omega
  have hne' : w.heap.size ≠ b := by omega
  have p0 : (r.pos : Int) ≤ 1000000 := by omega
  have hbs' : bs < w.heap.size := by omega
  have hn2 : b ≠ bs := by omega
  have HM := Lib.hid (show offerR l r k x = if (nthS l r.pos).ok = [] ∨ (k = 2 ∧ x ∈ (nthS l r.pos).ok) then ({ r with waiting := false, pos := r.pos + 1 }, true) else (r, false) by unfold offerR; rw [if_pos hgv])
  rw [hgv] at c4
  clear H hst ho hs hvo hoc hgv
  generalize hsx : (nthS l r.pos).ok = ok at *
  clear hsx
  go_enter Tryz.func160, Tryz.ntmps160
  go_wp2_with fail
  go_quiet (fail)
  go_wp2_with fail
  go_loopw [5, 7, 26] (fun v5 v7 v26 wr => v5 = .slice Ao ok.length co ∧ (∃ i : Nat, v26 = .int .i64 (i : Int) ∧ i ≤ ok.length ∧ Hid (∀ j, j < i → ¬ (k = 2 ∧ x = lst ok j))) ∧ wr = _) (fun _ _ v26 _ => match v26 with | .int _ x => ok.length - x.toNat | _ => 0)
  case atStart => exact ⟨rfl, ⟨0, rfl, by omega, fun j hj => by omega⟩, rfl⟩
  case round =>
    obtain ⟨rfl, ⟨i, rfl, hi, HN⟩, rfl⟩ := hrel
    by_cases hil : i < ok.length
    · obtain ⟨bo, offo, hAo, hbo, hco⟩ := HOC.out (by omega)
      subst hAo
      have ci := hco i hil
      have hbo' : bo < w.heap.size := by omega
      have HIL := Lib.hid hil
      clear hco
      by_cases hk : k = 2
      · by_cases hx : x = lst ok i
        · have HE := Lib.hid (HM.out.trans (if_pos (.inr ⟨hk, hx ▸ mem_lst hil⟩)))
          subst hk
          have hxe : (x == lst ok i) = true := by simpa using hx
          clear hx
          go_wp2_with fail
          go_ret
          rw [HE.out]
          refine ⟨rfl, ?_, ?_⟩
          · (constructor; all_goals (first | (intro o; simp [go_sem, hlt, hne, fz]; done) | (simp [go_sem, hlt, hne, hne', *]; done) | (simp [go_sem, hlt, hne, hne', *]; omega) | (rw [World.cell?_drew]; simp [go_sem, cell_set2, hlt, hne, hne', *]; done) | (simp [go_sem, cell_set2, hlt, hne, hne', *]; done) | skip))
          · (repeat' first | with_reducible exact Fr.refl _ _ | (with_reducible refine Fr.setEq ?_ _) | (with_reducible refine Fr.setNew ?_ _) | with_reducible refine Fr.alloc ?_ _ | with_reducible refine Fr.drewN ?_ _ | with_reducible refine Fr.drew ?_)
        · have hxe : (x == lst ok i) = false := by simpa using hx
          have HX := Lib.hid hx
          have HK := Lib.hid hk
          subst hk
          clear hx
          go_wp2_with fail
          refine ⟨⟨rfl, ⟨i + 1, by simp, by have := HIL.out; omega, fun j hj => ?_⟩, trivial⟩, ?_⟩
          · by_cases hji : j < i
            · have := HN.out j hji; simpa using this
            · obtain rfl : j = i := by omega
              have := HX.out; simpa using this
          · have := HIL.out
            show ok.length - ((i : Int) + 1).toNat < ok.length - (i : Int).toNat
            omega
      · have hke : (k == 2) = false := by simpa using hk
        have HK := Lib.hid hk
        clear hk
        go_wp2_with fail
        refine ⟨⟨rfl, ⟨i + 1, by simp, by have := HIL.out; omega, fun j hj => ?_⟩, trivial⟩, ?_⟩
        · by_cases hji : j < i
          · have := HN.out j hji; simpa using this
          · obtain rfl : j = i := by omega
            have := HK.out; simp [this]
        · have := HIL.out
          show ok.length - ((i : Int) + 1).toNat < ok.length - (i : Int).toNat
          omega
    · obtain rfl : i = ok.length := by omega
      by_cases h0 : ok.length = 0
      · have hok : ok = [] := List.length_eq_zero_iff.1 h0
        have HE := Lib.hid (HM.out.trans (if_pos (.inl hok)))
        subst hok
        clear h0 hil
        go_wp2_with fail
        go_ret
        rw [HE.out]
        refine ⟨rfl, ?_, ?_⟩
        · (constructor; all_goals (first | (intro o; simp [go_sem, hlt, hne, fz]; done) | (simp [go_sem, hlt, hne, hne', *]; done) | (simp [go_sem, hlt, hne, hne', *]; omega) | (rw [World.cell?_drew]; simp [go_sem, cell_set2, hlt, hne, hne', *]; done) | (simp [go_sem, cell_set2, hlt, hne, hne', *]; done) | skip))
        · (repeat' first | with_reducible exact Fr.refl _ _ | (with_reducible refine Fr.setEq ?_ _) | (with_reducible refine Fr.setNew ?_ _) | with_reducible refine Fr.alloc ?_ _ | with_reducible refine Fr.drewN ?_ _ | with_reducible refine Fr.drew ?_)
      · have hp1 : 0 < ok.length := by omega
        have HE := Lib.hid (HM.out.trans (if_neg (fun h => by
          rcases h with h | ⟨h1, h2⟩
          · exact h0 (by rw [h]; rfl)
          · obtain ⟨j, hj, e⟩ := lst_mem h2
            exact HN.out j hj ⟨h1, e⟩)))
        clear h0
        go_wp2_with fail
        go_ret
        rw [HE.out]
        exact ⟨rfl, HH.out.fr (S := fun _ => False) (((Fr.refl _ w).alloc _).drewN _) (fun h => h), ((Fr.refl _ w).alloc _).drewN _⟩
/-- the cells of what Top tells -/
def topC (r : RunS) : List Value := [.int .i64 2, .int .i64 r.pos, .string ⟨#[]⟩, .slice none 0 0, .int .i64 6, .int .i64 r.kid, .string ⟨#[]⟩, .slice none 0 0]
def TopPost (r : RunS) (w : World) (e : Ending) (w' : World) : Prop :=
  (r.waiting = false ∧ e = .returned (.tuple #[.slice none 0 0, .bool false]) ∧ w' = w) ∨
  (r.waiting = true ∧ e = .returned (.tuple #[.slice (some ⟨w.heap.size, 0, none⟩) 2 2, .bool true]) ∧ ∃ nq, w' = (w.drewN nq).alloc (.cells (topC r).toArray 41))
set_option maxRecDepth 100000 in
set_option maxHeartbeats 4000000 in
theorem top_any (b n c : Nat) (A : Option Addr) (r : RunS) (w : World) (H : RunAt w b A n c r) : Calls Tryz.prog 162 #[.pointer (some ⟨b, 0, none⟩)] w (TopPost r w) := by
  have HH := Lib.hid H
  have c0 := H.c0
  have c1 := H.c1
  have c2 := H.c2
  have c3 := H.c3
  have c4 := H.c4
  have c5 := H.c5
  have c6 := H.c6
  have c7 := H.c7
  have c8 := H.c8
  have c9 := H.c9
  have c10 := H.c10
  have c11 := H.c11
  have c12 := H.c12
  have c13 := H.c13
  have c14 := H.c14
  have hlt := H.lt
  have fz := H.fz
  have hne : b ≠ w.heap.size := by omega
  have hne' : w.heap.size ≠ b := by omega
  clear H
  rcases hgv : r.waiting with _ | _
  · have HG := Lib.hid hgv
    rw [hgv] at c4
    clear hgv
    go_enter Tryz.func162, Tryz.ntmps162
    go_wp2_with fail
    refine bodyPost_ret (results_two Tryz.results162 _ _) rfl (.inl ⟨HG.out, rfl, rfl⟩)
  · have HG := Lib.hid hgv
    rw [hgv] at c4
    clear hgv
    go_enter Tryz.func162, Tryz.ntmps162
    go_wp2_with fail
    go_region
    all_goals
      go_wp2_with fail
      refine bodyPost_ret (results_two Tryz.results162 _ _) rfl (.inr ⟨HG.out, rfl, 1, rfl⟩)
end Go.Proofs.YtjjfglbcikaicaaGreat
namespace Go.Proofs.YtjjfglbcikaicaaGreat
open Go.RowKit
set_option linter.unusedVariables false
set_option linter.unusedSimpArgs false
/-- Run, at some fuel -/
def runR (l : List Stp) : Nat → RunS → RunS × OutS
  | 0, r => (r, outO 1 0)
  | f + 1, r => if r.over || r.waiting then (r, ⟨r.lk, r.ln, r.lt, 0, 0⟩) else if r.giving then (r, outO 1 0) else if (stepR l r).2.kind = 1 then runR l f (stepR l r).1 else stepR l r
structure RunFin (n : Nat) (r' : RunS) (o : OutS) (b : Nat) (A : Option Addr) (c : Nat) (w : World) (q : Nat) (W : World) : Prop where
  run : RunAt W b A n c r'
  fr : Fr (fun k => k = b) w W
  out : ∀ j u, (outC o)[j]? = some u → W.cell? ⟨q, j, none⟩ = some u
def RunPost (n : Nat) (p : RunS × OutS) (b : Nat) (A : Option Addr) (c : Nat) (w : World) (e : Ending) (w' : World) : Prop :=
  e = .returned (.agg (outC p.2).toArray) ∧ RunAt w' b A n c p.1 ∧ Fr (fun k => k = b) w w'
theorem run_done {n : Nat} {p : RunS × OutS} {r1 : RunS} {o : OutS} {b c q : Nat} {A : Option Addr} {w W : World} {act : Act} {fn : Func} {s : Nat} (hr : fn.results = #[.cell s 152]) (ht : act.tmps.getD s undef = .pointer (some ⟨q, 0, none⟩)) (hd : act.defers = []) (F : RunFin n r1 o b A c w q W) (e : p = (r1, o)) :
    bodyPost Tryz.prog fn (RunPost n p b A c w) .ret act W :=
  bodyPost_ret (outC_results F.out hr ht) hd ⟨by rw [e], by rw [e]; exact F.run, F.fr⟩
/-- the worlds of Run's loop -/
structure RunRel (l : List Stp) (f0 : Nat) (r : RunS) (b : Nat) (A : Option Addr) (c : Nat) (w : World) (q : Nat) (f : Nat) (r' : RunS) (W : World) : Prop where
  run : RunAt W b A l.length c r'
  fr : Fr (fun k => k = b) w W
  out : ∀ j u, (outC (outO 0 0))[j]? = some u → W.cell? ⟨q, j, none⟩ = some u
  fz : ∀ j, W.frozen? ⟨q, j, none⟩ = false
  same : runR l f0 r = runR l f r'
theorem Fr.setAt {q o : Nat} {w w1 : World} (h : Fr (fun k => k = q) w w1) (u : Value) : Fr (fun k => k = q) w (w1.setCell ⟨q, o, none⟩ u) := h.set (Or.inl rfl) u
set_option maxRecDepth 100000 in
set_option maxHeartbeats 4000000 in
theorem run_any (base b c f0 : Nat) (A : Option Addr) (l : List Stp) (vo : Nat → Value) (r : RunS) (w : World) (H : RunAt w b A l.length c r) (HS : ScrAt w base A c l vo) (hbb : base ≤ b) (hf : f0 ≤ 1000000) : Calls Tryz.prog 161 #[.pointer (some ⟨b, 0, none⟩), .int .i64 (f0 : Int)] w (RunPost l.length (runR l f0 r) b A c w) := by
  have HR0 : RunRel l f0 r b A c w w.heap.size f0 r (w.alloc (.cells #[.int .i64 0, .int .i64 0, .string ⟨#[]⟩, .int .i64 0, .int .i64 0, .string ⟨#[]⟩, .slice none 0 0, .slice none 0 0] 152)) := by
    have hlt := H.lt
    refine ⟨H.fr ((Fr.refl (fun _ => False) w).alloc _) (fun h => h), (Fr.refl _ w).alloc _, fun j u hj => ?_, fun j => by simp [go_sem], rfl⟩
    rw [World.cell?_alloc_mark]
    simpa [outC, outO] using hj
  have HH := Lib.hid H
  have HSS := Lib.hid HS
  have HR := Lib.hid HR0
  have hlt := H.lt
  clear H HS HR0
  go_enter Tryz.func161, Tryz.ntmps161
  go_wp2_with fail
  go_loopw [1, 5, 10, 25] (fun v1 v5 v10 v25 wr => ∃ f r', v1 = .int .i64 ((f : Nat) : Int) ∧ f ≤ 1000000 ∧ Hid (RunRel l f0 r b A c w w.heap.size f r' wr)) (fun v1 _ _ _ _ => match v1 with | .int _ x => x.toNat | _ => 0)
  case atStart => exact ⟨f0, r, rfl, hf, HR⟩
  case round =>
    obtain ⟨f, r', rfl, hf1, HR⟩ := hrel
    have HRun := Lib.hid HR.out.run
    have HFr := Lib.hid HR.out.fr
    have HOut := Lib.hid HR.out.out
    have HS2 := Lib.hid HR.out.same
    have hsz := HR.out.fr.size
    have hbr := HR.out.run.lt
    have fq := HR.out.fz
    have fzb := HR.out.run.fz
    have c0 := HR.out.run.c0
    have c1 := HR.out.run.c1
    have c2 := HR.out.run.c2
    have c3 := HR.out.run.c3
    have c4 := HR.out.run.c4
    have c5 := HR.out.run.c5
    have c6 := HR.out.run.c6
    have c7 := HR.out.run.c7
    have c8 := HR.out.run.c8
    have c9 := HR.out.run.c9
    have c10 := HR.out.run.c10
    have c11 := HR.out.run.c11
    have c12 := HR.out.run.c12
    have c13 := HR.out.run.c13
    have c14 := HR.out.run.c14
    have o0 := HR.out.out 0 _ rfl
    have o1 := HR.out.out 1 _ rfl
    have o2 := HR.out.out 2 _ rfl
    have o3 := HR.out.out 3 _ rfl
    have o4 := HR.out.out 4 _ rfl
    have o5 := HR.out.out 5 _ rfl
    have o6 := HR.out.out 6 _ rfl
    have o7 := HR.out.out 7 _ rfl
    simp only [outO] at o0 o1 o2 o3 o4 o5 o6 o7
    have hqr : w.heap.size < wr.heap.size := World.block_lt_of_cell? wr _ o0
    have hne : b ≠ w.heap.size := by omega
    have hne' : w.heap.size ≠ b := by omega
    clear HR
    by_cases hf0 : f = 0
    · have HS3 := Lib.hid (show runR l f0 r = (r', outO 1 0) by rw [HS2.out, hf0]; rfl)
      have hp0 : ¬ (0 < f) := by omega
      clear hf0
      go_wp2_with fail
      refine run_done (q := w.heap.size) (r1 := r') (o := outO 1 0) rfl rfl rfl ⟨?_, ?_, ?_⟩ (HS3.out)
      · exact HRun.out.fr (by (repeat' first | with_reducible exact Fr.refl (fun k => k = _) _ | (with_reducible refine Fr.setAt ?_ _) | with_reducible refine Fr.alloc ?_ _ | with_reducible refine Fr.drewN ?_ _ | with_reducible refine Fr.drew ?_)) (by omega)
      · (repeat' first | with_reducible exact HFr.out | (with_reducible refine Fr.setEq ?_ _) | (with_reducible refine Fr.setNew ?_ _) | with_reducible refine Fr.alloc ?_ _ | with_reducible refine Fr.drewN ?_ _ | with_reducible refine Fr.drew ?_)
      · intro j u hj
        rcases j with _ | _ | _ | _ | _ | _ | _ | _ | j
        all_goals (simp [outC, outO] at hj)
        all_goals (subst hj; simp [go_sem, hne, hne', hqr, o0, o1, o2, o3, o4, o5, o6, o7]; done)
    · obtain ⟨g, hg⟩ : ∃ g, f = g + 1 := ⟨f - 1, by omega⟩
      have HG := Lib.hid hg
      have hp0 : 0 < f := by omega
      have HS3 := Lib.hid (HS2.out.trans (congrArg (fun x => runR l x r') hg))
      clear hf0 hg
      rcases hov : r'.over with _ | _
      · rcases hwt : r'.waiting with _ | _
        · rcases hgv : r'.giving with _ | _
          · have HO := Lib.hid hov
            have HW := Lib.hid hwt
            have HV := Lib.hid hgv
            rw [hov] at c6
            rw [hwt] at c4
            rw [hgv] at c5
            clear hov hwt hgv
            go_wp2_with fail
            refine (step_any base b c A l vo r' wr HRun.out (HSS.out.below (HFr.out.below (fun i h => by omega) (by omega))) hbb).mono ?_
            rintro e w2 ⟨rfl, hR2, hF2⟩
            generalize ho : (stepR l r').2 = o at hR2
            generalize hr2 : (stepR l r').1 = r2 at hR2
            have HR2 := Lib.hid hR2
            have HF2 := Lib.hid (HFr.out.trans' hF2)
            have hq2 : w.heap.size < w2.heap.size := by have := hF2.size; omega
            have p0 : w2.cell? ⟨w.heap.size, 0, none⟩ = some (.int .i64 0) := hF2.cell o0 (by omega)
            have p1 : w2.cell? ⟨w.heap.size, 1, none⟩ = some (.int .i64 0) := hF2.cell o1 (by omega)
            have p2 : w2.cell? ⟨w.heap.size, 2, none⟩ = some (.string ⟨#[]⟩) := hF2.cell o2 (by omega)
            have p3 : w2.cell? ⟨w.heap.size, 3, none⟩ = some (.int .i64 0) := hF2.cell o3 (by omega)
            have p4 : w2.cell? ⟨w.heap.size, 4, none⟩ = some (.int .i64 0) := hF2.cell o4 (by omega)
            have p5 : w2.cell? ⟨w.heap.size, 5, none⟩ = some (.string ⟨#[]⟩) := hF2.cell o5 (by omega)
            have p6 : w2.cell? ⟨w.heap.size, 6, none⟩ = some (.slice none 0 0) := hF2.cell o6 (by omega)
            have p7 : w2.cell? ⟨w.heap.size, 7, none⟩ = some (.slice none 0 0) := hF2.cell o7 (by omega)
            have fq2 : ∀ j, w2.frozen? ⟨w.heap.size, j, none⟩ = false := fun j => (hF2.frozen hqr (by omega)).trans (fq j)
            have HOq := Lib.hid (show ∀ j u, (outC (outO 0 0))[j]? = some u → w2.cell? ⟨w.heap.size, j, none⟩ = some u from fun j u hj => hF2.cell (HOut.out j u hj) (by omega))
            rw [show (outC o).toArray = #[.int .i64 o.kind, .int .i64 o.num, .string o.text, .int .i64 o.vk, .int .i64 o.vn, .string ⟨#[]⟩, .slice none 0 0, .slice none 0 0] from rfl]
            have HO2 := Lib.hid ho
            have HRR := Lib.hid hr2
            clear hR2 hF2 ho hr2 fq fzb c0 c1 c2 c3 c4 c5 c6 c7 c8 c9 c10 c11 c12 c13 c14 o0 o1 o2 o3 o4 o5 o6 o7 HRun HFr
            by_cases hk : o.kind = 1
            · have HS4 := Lib.hid (show runR l f0 r = runR l g r2 by rw [HS3.out]; show (if r'.over || r'.waiting then _ else _) = _; rw [HO.out, HW.out, HV.out, HO2.out, HRR.out]; simp [hk])
              have hk1 : (o.kind != 1) = false := by simpa using hk
              clear hk
              go_wp2_with fail
              have hfg : f = g + 1 := HG.out
              refine ⟨⟨g, r2, by rw [hfg]; simp, by omega, ⟨HR2.out.fr (S := fun _ => False) ((Fr.refl _ w2).alloc _) (fun h => h), HF2.out.alloc _, fun j u hj => ((Fr.refl (fun _ => False) w2).alloc _).cell (HOq.out j u hj) (fun h => h), fun j => (((Fr.refl (fun _ => False) w2).alloc _).frozen hq2 (fun h => h)).trans (fq2 j), HS4.out⟩⟩, ?_⟩
              show (((f : Int) - 1).toNat) < ((f : Int)).toNat
              omega
            · have HS4 := Lib.hid (show runR l f0 r = (r2, o) by rw [HS3.out]; show (if r'.over || r'.waiting then _ else _) = _; rw [HO.out, HW.out, HV.out, HO2.out, HRR.out]; simp [hk]; rw [← HO2.out, ← HRR.out])
              have hk1 : (o.kind != 1) = true := by simpa using hk
              clear hk
              go_wp2_with fail
              refine run_done (q := w.heap.size) (r1 := r2) (o := o) rfl rfl rfl ⟨?_, ?_, ?_⟩ HS4.out
              · exact HR2.out.fr (S := fun k => k = w.heap.size) (by (repeat' first | with_reducible exact Fr.refl (fun k => k = _) _ | (with_reducible refine Fr.setAt ?_ _) | with_reducible refine Fr.alloc ?_ _ | with_reducible refine Fr.drewN ?_ _ | with_reducible refine Fr.drew ?_)) (by omega)
              · (repeat' first | with_reducible exact HF2.out | (with_reducible refine Fr.setEq ?_ _) | (with_reducible refine Fr.setNew ?_ _) | with_reducible refine Fr.alloc ?_ _ | with_reducible refine Fr.drewN ?_ _ | with_reducible refine Fr.drew ?_)
              · intro j u hj
                rcases j with _ | _ | _ | _ | _ | _ | _ | _ | j
                all_goals (simp [outC] at hj)
                all_goals (subst hj; simp [go_sem, hne, hne', hq2, p0, p1, p2, p3, p4, p5, p6, p7]; done)
          · have HO := Lib.hid hov
            have HW := Lib.hid hwt
            have HV := Lib.hid hgv
            have HS4 := Lib.hid (show runR l f0 r = (r', outO 1 0) by rw [HS3.out]; unfold runR; simp [hov, hwt, hgv])
            rw [hov] at c6
            rw [hwt] at c4
            rw [hgv] at c5
            clear hov hwt hgv
            go_wp2_with fail
            refine run_done (q := w.heap.size) (r1 := r') (o := outO 1 0) rfl rfl rfl ⟨?_, ?_, ?_⟩ (HS4.out)
            · exact HRun.out.fr (by (repeat' first | with_reducible exact Fr.refl (fun k => k = _) _ | (with_reducible refine Fr.setAt ?_ _) | with_reducible refine Fr.alloc ?_ _ | with_reducible refine Fr.drewN ?_ _ | with_reducible refine Fr.drew ?_)) (by omega)
            · (repeat' first | with_reducible exact HFr.out | (with_reducible refine Fr.setEq ?_ _) | (with_reducible refine Fr.setNew ?_ _) | with_reducible refine Fr.alloc ?_ _ | with_reducible refine Fr.drewN ?_ _ | with_reducible refine Fr.drew ?_)
            · intro j u hj
              rcases j with _ | _ | _ | _ | _ | _ | _ | _ | j
              all_goals (simp [outC, outO] at hj)
              all_goals (subst hj; simp [go_sem, hne, hne', hqr, o0, o1, o2, o3, o4, o5, o6, o7]; done)
        · have HO := Lib.hid hov
          have HW := Lib.hid hwt
          have HS4 := Lib.hid (show runR l f0 r = (r', ⟨r'.lk, r'.ln, r'.lt, 0, 0⟩) by rw [HS3.out]; unfold runR; simp [hov, hwt])
          rw [hov] at c6
          rw [hwt] at c4
          clear hov hwt
          go_wp2_with fail
          refine run_done (q := w.heap.size) (r1 := r') (o := ⟨r'.lk, r'.ln, r'.lt, 0, 0⟩) rfl rfl rfl ⟨?_, ?_, ?_⟩ (HS4.out)
          · exact HRun.out.fr (by (repeat' first | with_reducible exact Fr.refl (fun k => k = _) _ | (with_reducible refine Fr.setAt ?_ _) | with_reducible refine Fr.alloc ?_ _ | with_reducible refine Fr.drewN ?_ _ | with_reducible refine Fr.drew ?_)) (by omega)
          · (repeat' first | with_reducible exact HFr.out | (with_reducible refine Fr.setEq ?_ _) | (with_reducible refine Fr.setNew ?_ _) | with_reducible refine Fr.alloc ?_ _ | with_reducible refine Fr.drewN ?_ _ | with_reducible refine Fr.drew ?_)
          · intro j u hj
            rcases j with _ | _ | _ | _ | _ | _ | _ | _ | j
            all_goals (simp [outC, outO] at hj)
            all_goals (subst hj; simp [go_sem, hne, hne', hqr, o0, o1, o2, o3, o4, o5, o6, o7]; done)
      · have HO := Lib.hid hov
        have HS4 := Lib.hid (show runR l f0 r = (r', ⟨r'.lk, r'.ln, r'.lt, 0, 0⟩) by rw [HS3.out]; unfold runR; simp [hov])
        rw [hov] at c6
        clear hov
        go_wp2_with fail
        refine run_done (q := w.heap.size) (r1 := r') (o := ⟨r'.lk, r'.ln, r'.lt, 0, 0⟩) rfl rfl rfl ⟨?_, ?_, ?_⟩ (HS4.out)
        · exact HRun.out.fr (by (repeat' first | with_reducible exact Fr.refl (fun k => k = _) _ | (with_reducible refine Fr.setAt ?_ _) | with_reducible refine Fr.alloc ?_ _ | with_reducible refine Fr.drewN ?_ _ | with_reducible refine Fr.drew ?_)) (by omega)
        · (repeat' first | with_reducible exact HFr.out | (with_reducible refine Fr.setEq ?_ _) | (with_reducible refine Fr.setNew ?_ _) | with_reducible refine Fr.alloc ?_ _ | with_reducible refine Fr.drewN ?_ _ | with_reducible refine Fr.drew ?_)
        · intro j u hj
          rcases j with _ | _ | _ | _ | _ | _ | _ | _ | j
          all_goals (simp [outC, outO] at hj)
          all_goals (subst hj; simp [go_sem, hne, hne', hqr, o0, o1, o2, o3, o4, o5, o6, o7]; done)
end Go.Proofs.YtjjfglbcikaicaaGreat
