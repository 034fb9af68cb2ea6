/- The walk of the law HeapOwn. -/
import Derived.Test.YtkdbnkkdohkhjaaOWA
import Derived.Test.YtkdbnkkdohkhjaaHeaps
import Derived.Deep.DeepCutAuto
namespace Go.Proofs.Ytkdbnkkdohkhjaa
open Go.RowKit Go.ChangeShapes Go.WideShapes Go.Deep Bl
set_option linter.unusedVariables false
theorem blk_slice {A : Option Addr} {n c : Nat} : blkOf (.slice A n c) = (Value.slice A n c).ownBlock := by cases A <;> rfl
/-- the four clones -/
def RowH (w1 : World) (h g : List Nat) (late : List Int) (sn : Nat) (T : Nat → ByteArray) (M : Nat → Int) (k : Nat) (v : Value) (w : World) : Prop :=
  match k with
  | 0 => ∃ A c, v = .slice A h.length c ∧ OwnU w w1.heap.size v h
  | 1 => ∃ A c, v = .slice A sn c ∧ w.ownsRow w1.heap.size 62 2 v sn (flatC (blobC T M) sn)
  | 2 => ∃ A c, v = .slice A g.length c ∧ OwnU w w1.heap.size v g
  | _ => ∃ A c, v = .slice A late.length c ∧ OwnI w w1.heap.size v late
theorem rowH_fam (w1 : World) (h g : List Nat) (late : List Int) (sn : Nat) (T : Nat → ByteArray) (M : Nat → Int) : RowFam w1 4 (RowH w1 h g late sn T M) := by
  refine ⟨fun k v w w' row hk hr hg hb => ?_, fun k v w b hk hr hb => ?_⟩
  · match k, hr with
    | 0, ⟨A, c, e, hO⟩ => subst e; exact ⟨A, c, rfl, hO.grown hg (fun k hk => hb k (by rw [blk_slice]; exact hk))⟩
    | 1, ⟨A, c, e, hO⟩ => subst e; exact ⟨A, c, rfl, own_grown hO hg (fun k hk => hb k (by rw [blk_slice]; exact hk))⟩
    | 2, ⟨A, c, e, hO⟩ => subst e; exact ⟨A, c, rfl, hO.grown hg (fun k hk => hb k (by rw [blk_slice]; exact hk))⟩
    | 3, ⟨A, c, e, hO⟩ => subst e; exact ⟨A, c, rfl, hO.grown hg (fun k hk => hb k (by rw [blk_slice]; exact hk))⟩
    | k + 4, _ => omega
  · match k, hr with
    | 0, ⟨A, c, e, hO⟩ => subst e; rw [blk_slice] at hb; exact hO.blk b hb
    | 1, ⟨A, c, e, hO⟩ => subst e; rw [blk_slice] at hb; exact hO.lt b hb
    | 2, ⟨A, c, e, hO⟩ => subst e; rw [blk_slice] at hb; exact hO.blk b hb
    | 3, ⟨A, c, e, hO⟩ => subst e; rw [blk_slice] at hb; exact hO.blk b hb
    | k + 4, _ => omega
structure BxH (wi : World) (n0 : Nat) (h g : List Nat) (late : List Int) (o : Ob) (hA eA lA pA sA : Option Addr) (hc ec lc pc sn sc : Nat) (old z : Int) : Prop where
  c7 : wi.cell? ⟨n0, 0, none⟩ = some (.slice hA h.length hc)
  ob : OB wi (n0 + 1) z o.kind o.num o.text pA o.parts.length pc
  ag : AgB wi (n0 + 1 + 1) eA g.length ec old lA late.length lc
  c12 : wi.cell? ⟨n0 + 1 + 1 + 1, 0, none⟩ = some (.slice sA sn sc)
theorem BxH.below {wi wj : World} {n0 : Nat} {h g : List Nat} {late : List Int} {o : Ob} {hA eA lA pA sA : Option Addr} {hc ec lc pc sn sc : Nat} {old z : Int} (H : BxH wi n0 h g late o hA eA lA pA sA hc ec lc pc sn sc old z) (hb : Below wi.heap.size wi wj) : BxH wj n0 h g late o hA eA lA pA sA hc ec lc pc sn sc old z :=
  ⟨(hb.cell (p := ⟨n0, 0, none⟩) (World.block_lt_of_cell? wi _ H.c7)).trans H.c7, H.ob.grown (grown_below (g := none) hb) (fun g hg => by cases hg), H.ag.below hb, (hb.cell (p := ⟨n0 + 1 + 1 + 1, 0, none⟩) (World.block_lt_of_cell? wi _ H.c12)).trans H.c12⟩
theorem u_cell {w : World} {base g c j : Nat} {l : List Nat} (h : OwnU w base (.slice (some ⟨g, 0, none⟩) l.length c) l) (hj : j < l.length) : w.cell? ⟨g, j, none⟩ = some (.int .u64 ((nth l j : Nat) : Int)) ∧ w.frozen? ⟨g, j, none⟩ = false := by
  refine ⟨?_, World.ownsRow.frozenAt h j⟩
  rw [World.ownsRow.cellAt h j (by omega), encU_get hj]
theorem i_cell {w : World} {base g c j : Nat} {l : List Int} (h : OwnI w base (.slice (some ⟨g, 0, none⟩) l.length c) l) (hj : j < l.length) : w.cell? ⟨g, j, none⟩ = some (.int .i64 (lst l j)) ∧ w.frozen? ⟨g, j, none⟩ = false := by
  refine ⟨?_, World.ownsRow.frozenAt h j⟩
  rw [World.ownsRow.cellAt h j (by omega)]
  exact encI_get (by simp [lst, hj])
theorem idx6 (s0 s1 s2 s3 s4 s5 : Value) (VV : Nat → Value) (h0 : VV 0 = s0) (h1 : VV 1 = s1) (h2 : VV 2 = s2) (h3 : VV 3 = s3) (h4 : VV 4 = s4) (h5 : VV 5 = s5) (hs : ∀ k, k < 6 → ∃ A n c, VV k = .slice A n c) {k : Nat} (hk : k < 6) : ∀ W : World, (Instr.index 74 (.agg #[s0, s1, s2, s3, s4, s5]) (.int .i64 (k : Int))).run Try.prog W = .ok (VV k) W := by
  obtain ⟨_, _, _, g0⟩ := hs 0 (by omega)
  obtain ⟨_, _, _, g1⟩ := hs 1 (by omega)
  obtain ⟨_, _, _, g2⟩ := hs 2 (by omega)
  obtain ⟨_, _, _, g3⟩ := hs 3 (by omega)
  obtain ⟨_, _, _, g4⟩ := hs 4 (by omega)
  obtain ⟨_, _, _, g5⟩ := hs 5 (by omega)
  subst h0 h1 h2 h3 h4 h5
  have hkk : k = 0 ∨ k = 1 ∨ k = 2 ∨ k = 3 ∨ k = 4 ∨ k = 5 := by omega
  rcases hkk with rfl | rfl | rfl | rfl | rfl | rfl <;> (intro W; rw [g0, g1, g2, g3, g4, g5]; kernel_rfl)
theorem idx2 (s0 s1 : Value) (VV : Nat → Value) (h0 : VV 0 = s0) (h1 : VV 1 = s1) (hs : ∀ k, k < 2 → ∃ A n c, VV k = .slice A n c) {k : Nat} (hk : k < 2) : ∀ W : World, (Instr.index 75 (.agg #[s0, s1]) (.int .i64 (k : Int))).run Try.prog W = .ok (VV k) W := by
  obtain ⟨_, _, _, g0⟩ := hs 0 (by omega)
  obtain ⟨_, _, _, g1⟩ := hs 1 (by omega)
  subst h0 h1
  have hkk : k = 0 ∨ k = 1 := by omega
  rcases hkk with rfl | rfl <;> (intro W; rw [g0, g1]; kernel_rfl)
def zS : Nat → Value := fun _ => .slice none 0 0
def yI (j : Nat) : Nat := [0, 2, 4, 5, 7, 8].getD j 0
def cI (k : Nat) : Nat := [1, 3, 6, 9].getD k 0
def vyH (h g : List Nat) (hA eA sA lA : Option Addr) (hc ec sc lc sn ln n0 : Nat) : Nat → Value := fun j => [Value.slice hA h.length hc, .slice sA sn sc, .pointer (some ⟨n0 + 1 + 1, 0, none⟩), .slice eA g.length ec, .pointer (some ⟨n0 + 1 + 1, 2, none⟩), .slice lA ln lc].getD j undef
theorem dn_ne {L : Nat → Bool} {i j : Nat} (h : j ≠ i) : dn L i j = L j := by unfold dn; rw [if_neg h]
theorem yI_inj : ∀ j, j < 6 → ∀ k, k < 6 → j ≠ k → yI j ≠ yI k := by decide
theorem cI_inj : ∀ j, j < 4 → ∀ k, k < 4 → j ≠ k → cI j ≠ cI k := by decide
theorem yI_c : ∀ j, j < 6 → ∀ k, k < 4 → yI j ≠ cI k ∧ yI j ≠ 10 + k ∧ yI j ≠ 14 + k := by decide
theorem cI_a : ∀ j, j < 4 → ∀ k, k < 4 → cI j ≠ 10 + k ∧ cI j ≠ 14 + k ∧ 10 + j ≠ 14 + k := by decide
theorem y_load {L : Nat → Bool} {Y VY : Nat → Value} {k : Nat} (hk : k < 6) (hY : ∀ j, j < 6 → L (yI j) = true → Y j = VY j) : ∀ j, j < 6 → dn L (yI k) (yI j) = true → updV Y k (VY k) j = VY j := by
  intro j hj h
  unfold updV
  by_cases e : j = k
  · subst e; rw [if_pos rfl]
  · rw [if_neg e]
    exact hY j hj (of_dn h (yI_inj j hj k hk e))
theorem y_other {L : Nat → Bool} {Y VY : Nat → Value} {i : Nat} (hi : ∀ j, j < 6 → yI j ≠ i) (hY : ∀ j, j < 6 → L (yI j) = true → Y j = VY j) : ∀ j, j < 6 → dn L i (yI j) = true → Y j = VY j := fun j hj h => hY j hj (of_dn h (hi j hj))
theorem y_upd {L : Nat → Bool} {Y VY : Nat → Value} {i : Nat} (k : Nat) (hi : ∀ j, j < 6 → yI j ≠ i) (hY : ∀ j, j < 6 → L (yI j) = true → Y j = VY j) : ∀ j, j < 6 → dn L i (yI j) = true → updV Y k (VY k) j = VY j := by
  intro j hj h
  unfold updV
  by_cases e : j = k
  · subst e; rw [if_pos rfl]
  · rw [if_neg e]
    exact y_other hi hY j hj h
section
variable {w1 w : World} {Row : Nat → Value → World → Prop} {Z V Pt : Nat → Value} {L : Nat → Bool} {k : Nat}
theorem ci_load (hk : k < 6) (H : CI w1 4 Row Z (fun k => L (cI k)) (fun k => L (10 + k)) (fun k => L (14 + k)) V Pt w) : CI w1 4 Row Z (fun j => dn L (yI k) (cI j)) (fun j => dn L (yI k) (10 + j)) (fun j => dn L (yI k) (14 + j)) V Pt w :=
  H.congr (fun j hj => dn_ne (fun e => (yI_c k hk j hj).1 e.symm)) (fun j hj => dn_ne (fun e => (yI_c k hk j hj).2.1 e.symm)) (fun j hj => dn_ne (fun e => (yI_c k hk j hj).2.2 e.symm))
theorem ci_call (hk : k < 4) (H : CI w1 4 Row Z (dn (fun k => L (cI k)) k) (fun k => L (10 + k)) (fun k => L (14 + k)) V Pt w) : CI w1 4 Row Z (fun j => dn L (cI k) (cI j)) (fun j => dn L (cI k) (10 + j)) (fun j => dn L (cI k) (14 + j)) V Pt w := by
  refine H.congr (fun j hj => ?_) (fun j hj => dn_ne (fun e => (cI_a k hk j hj).1 e.symm)) (fun j hj => dn_ne (fun e => (cI_a k hk j hj).2.1 e.symm))
  by_cases e : j = k
  · subst e; rw [dn_self, dn_self]
  · rw [dn_ne e, dn_ne (cI_inj j hj k hk e)]
theorem ci_alloc (hk : k < 4) (H : CI w1 4 Row Z (fun k => L (cI k)) (dn (fun k => L (10 + k)) k) (fun k => L (14 + k)) V Pt w) : CI w1 4 Row Z (fun j => dn L (10 + k) (cI j)) (fun j => dn L (10 + k) (10 + j)) (fun j => dn L (10 + k) (14 + j)) V Pt w := by
  refine H.congr (fun j hj => dn_ne (cI_a j hj k hk).1) (fun j hj => ?_) (fun j hj => dn_ne (fun e => (cI_a k hk j hj).2.2 e.symm))
  by_cases e : j = k
  · subst e; rw [dn_self, dn_self]
  · rw [dn_ne e, dn_ne (by omega)]
theorem ci_store (hk : k < 4) (H : CI w1 4 Row Z (fun k => L (cI k)) (fun k => L (10 + k)) (dn (fun k => L (14 + k)) k) V Pt w) : CI w1 4 Row Z (fun j => dn L (14 + k) (cI j)) (fun j => dn L (14 + k) (10 + j)) (fun j => dn L (14 + k) (14 + j)) V Pt w := by
  refine H.congr (fun j hj => dn_ne (cI_a j hj k hk).2.1) (fun j hj => dn_ne (cI_a j hj k hk).2.2) (fun j hj => ?_)
  by_cases e : j = k
  · subst e; rw [dn_self, dn_self]
  · rw [dn_ne e, dn_ne (by omega)]
end
theorem updV_same {V : Nat → Value} {k : Nat} {v : Value} (h : V k = v) : updV V k v = V := by
  funext j
  unfold updV
  split
  · rename_i e; subst e; exact h.symm
  · rfl
set_option maxHeartbeats 8000000 in
set_option maxRecDepth 100000 in
theorem heapOwn_go (h g roots : List Nat) (hA lA rA pA eA sA : Option Addr) (hc lc rc pc ec sc sn : Nat) (old a z : Int) (late : List Int) (o : Ob) (T : Nat → ByteArray) (M : Nat → Int) (x : ByteArray) (w : World)
    (hH : Su w (.slice hA h.length hc) h) (h64 : All64 h) (hlen : h.length ≤ 1048576) (hP : Su w (.slice pA o.parts.length pc) o.parts) (hE : Su w (.slice eA g.length ec) g) (g64 : All64 g) (glen : g.length ≤ 1048576) (hL : Rd w 1 (tmC (lst late)) lA late.length) (hLn : lA = none → late.length = 0) (hll : late.length ≤ 1048576) (hwl : ∀ x ∈ late, Wf x) (hwo : Wf old) (hwa : Wf a) (hR : Su w (.slice rA roots.length rc) roots) (r64 : All64 roots) (hS : Rd w 2 (blobC T M) sA sn) (hsA : sA = none → sn = 0) (hsn : sn ≤ 1048576) (hsc : sn ≤ sc) (hscm : sc ≤ 9223372036854775807) :
    Calls Try.prog 8 #[.slice hA h.length hc, .agg #[.int .i64 z, .int .i64 o.kind, .int .i64 o.num, .string o.text, .slice pA o.parts.length pc], .agg #[.slice eA g.length ec, .int .i64 old, .slice lA late.length lc], .slice rA roots.length rc, .int .i64 a, .slice sA sn sc, .string x] w fun e w' => e = .returned (.bool true) ∧ Below w.heap.size w w' := by
  have HH := Lib.hid hH
  have H64 := Lib.hid h64
  have HP := Lib.hid hP
  have HE := Lib.hid hE
  have G64 := Lib.hid g64
  have HL := Lib.hid hL
  have HLN := Lib.hid hLn
  have HWL := Lib.hid hwl
  have HWO := Lib.hid hwo
  have HWA := Lib.hid hwa
  have HR := Lib.hid hR
  have R64 := Lib.hid r64
  have HSS := Lib.hid hS
  have HSA := Lib.hid hsA
  obtain ⟨W1, hW1⟩ : ∃ W1, W1 = (((w.alloc (.cells #[.slice hA h.length hc] 23)).alloc (.cells #[.int .i64 z, .int .i64 o.kind, .int .i64 o.num, .string o.text, .slice pA o.parts.length pc] 33)).alloc (.cells #[.slice eA g.length ec, .int .i64 old, .slice lA late.length lc] 26)).alloc (.cells #[.slice sA sn sc] 58) := ⟨_, rfl⟩
  have HB1 := Lib.hid (show Below w.heap.size w W1 by rw [hW1]; exact ((((Below.refl _ _).alloc (Nat.le_refl _) _).alloc (by simp) _).alloc (by simp; omega) _).alloc (by simp; omega) _)
  have HZ1 := Lib.hid (show W1.heap.size = w.heap.size + 4 by rw [hW1]; simp)
  have HC1 := Lib.hid (show W1.cell? ⟨w.heap.size, 0, none⟩ = some (.slice hA h.length hc) ∧ W1.cell? ⟨w.heap.size + 1 + 1, 0, none⟩ = some (.slice eA g.length ec) ∧ W1.cell? ⟨w.heap.size + 1 + 1, 1, none⟩ = some (.int .i64 old) ∧ W1.cell? ⟨w.heap.size + 1 + 1, 2, none⟩ = some (.slice lA late.length lc) ∧ W1.cell? ⟨w.heap.size + 1 + 1 + 1, 0, none⟩ = some (.slice sA sn sc) by
    rw [hW1]
    refine ⟨?_, ?_, ?_, ?_, ?_⟩ <;> simp [go_sem])
  have HO1 := Lib.hid (show OB W1 (w.heap.size + 1) z o.kind o.num o.text pA o.parts.length pc by
    rw [hW1]
    have h1 := OB.new (w.alloc (.cells #[.slice hA h.length hc] 23)) z o.kind o.num o.text pA o.parts.length pc 33
    have h2 : (w.alloc (.cells #[.slice hA h.length hc] 23)).heap.size = w.heap.size + 1 := by simp
    rw [h2] at h1
    exact (h1.grown (World.grownBy_alloc _ _ none) (fun g hg => by cases hg)).grown (World.grownBy_alloc _ _ none) (fun g hg => by cases hg))
  clear hH h64 hP hE g64 hL hLn hwl hwo hwa hR r64 hS hsA
  go_enter Try.func8, Try.ntmps8
  go_wp2_with fail
  rw [← hW1]
  clear hW1
  refine (heaps_any _).mono ?_
  rintro e w1 ⟨rfl, hb1⟩
  have HB2 := Lib.hid (HB1.out.trans (hb1.mono HB1.out.size))
  have HB12 := Lib.hid hb1
  clear hb1
  by_cases hrn : 40 < roots.length
  · have d0 : decide ((40 : Int) < (roots.length : Int)) = true := decide_eq_true (by omega)
    clear hrn
    go_wp2_with fail
    refine (heaps_any _).mono ?_
    rintro e w2 ⟨rfl, hb2⟩
    have HB3 := Lib.hid (HB2.out.trans (hb2.mono HB2.out.size))
    clear hb2
    go_wp2_with fail
    go_ret
    exact ⟨rfl, HB3.out⟩
  have d0 : decide ((40 : Int) < (roots.length : Int)) = false := decide_eq_false (by omega)
  have HRN := Lib.hid hrn
  clear hrn
  go_wp2_with fail
  have HCW := Lib.hid (show ∀ wx, Below w1.heap.size w1 wx → wx.cell? ⟨w.heap.size, 0, none⟩ = some (.slice hA h.length hc) ∧ wx.cell? ⟨w.heap.size + 1 + 1, 0, none⟩ = some (.slice eA g.length ec) ∧ wx.cell? ⟨w.heap.size + 1 + 1, 1, none⟩ = some (.int .i64 old) ∧ wx.cell? ⟨w.heap.size + 1 + 1, 2, none⟩ = some (.slice lA late.length lc) ∧ wx.cell? ⟨w.heap.size + 1 + 1 + 1, 0, none⟩ = some (.slice sA sn sc) from fun wx hb => by
    have hz := HZ1.out
    have hbb := HB12.out.trans (hb.mono HB12.out.size)
    obtain ⟨q1, q2, q3, q4, q5⟩ := HC1.out
    exact ⟨(hbb.cell (p := ⟨w.heap.size, 0, none⟩) (by show w.heap.size < _; omega)).trans q1, (hbb.cell (p := ⟨w.heap.size + 1 + 1, 0, none⟩) (by show w.heap.size + 1 + 1 < _; omega)).trans q2, (hbb.cell (p := ⟨w.heap.size + 1 + 1, 1, none⟩) (by show w.heap.size + 1 + 1 < _; omega)).trans q3, (hbb.cell (p := ⟨w.heap.size + 1 + 1, 2, none⟩) (by show w.heap.size + 1 + 1 < _; omega)).trans q4, (hbb.cell (p := ⟨w.heap.size + 1 + 1 + 1, 0, none⟩) (by show w.heap.size + 1 + 1 + 1 < _; omega)).trans q5⟩)
  have HF := Lib.hid (rowH_fam w1 h g late sn T M)
  go_cut [15, 16, 17, 18] (fun x15 x16 x17 x18 wx => ∃ V Pt, x15 = Pt 0 ∧ x16 = Pt 1 ∧ x17 = Pt 2 ∧ x18 = Pt 3 ∧ CI w1 4 (RowH w1 h g late sn T M) zS (fun _ => true) (fun _ => true) (fun _ => true) V Pt wx)
  case first =>
    refine region_inv (n := 18) (by kernel_rfl) (by kernel_rfl) (by kernel_rfl) (fun L ax wx => ∃ V Pt Y : Nat → Value, ax = ⟨#[.slice hA h.length hc, .agg #[.int .i64 z, .int .i64 o.kind, .int .i64 o.num, .string o.text, .slice pA o.parts.length pc], .agg #[.slice eA g.length ec, .int .i64 old, .slice lA late.length lc], .slice rA roots.length rc, .int .i64 a, .slice sA sn sc, .string x, .pointer (some ⟨w.heap.size, 0, none⟩), .pointer (some ⟨w.heap.size + 1, 0, none⟩), .pointer (some ⟨w.heap.size + 1 + 1, 0, none⟩), undef, undef, .pointer (some ⟨w.heap.size + 1 + 1 + 1, 0, none⟩), undef, .bool false, Pt 0, Pt 1, Pt 2, Pt 3, undef, undef, undef, undef, undef, undef, undef, undef, undef, undef, undef, undef, undef, undef, undef, undef, undef, undef, undef, undef, undef, undef, undef, undef, undef, undef, undef, undef, undef, undef, .bool true, .bool false, .bool false, .slice rA roots.length rc, .int .i64 roots.length, .bool false, .bool false, undef, Y 0, V 0, Y 1, V 1, Y 2, Y 3, V 2, Y 4, Y 5, V 3, undef, undef, undef, undef, undef, undef, undef, undef, undef, undef, undef, undef, undef, undef, undef, undef, undef, undef, undef, undef, undef, undef, undef, undef, undef, undef, undef, undef, undef, undef, undef, undef, undef, undef, undef, undef, undef, undef, undef, undef, undef, undef, undef, undef, undef, undef, undef, undef, undef, undef, undef, undef, undef, undef, undef, undef, undef, undef, undef, undef, undef, undef, undef, undef, undef, undef, undef, undef, undef, undef, undef, undef, undef, undef, undef, undef, undef, undef, undef, undef, undef, undef, undef, undef, undef, undef, undef, undef, undef, undef, undef, undef, undef, undef, undef, undef, undef, undef, undef, undef, undef, undef, undef, undef, undef, undef, undef, undef, undef, undef, undef, undef, undef, undef, undef, undef, undef, undef, undef, undef, undef, undef, undef, undef, undef], []⟩ ∧ (∀ j, j < 6 → L (yI j) = true → Y j = vyH h g hA eA sA lA hc ec sc lc sn late.length w.heap.size j) ∧ CI w1 4 (RowH w1 h g late sn T M) zS (fun k => L (cI k)) (fun k => L (10 + k)) (fun k => L (14 + k)) V Pt wx) ?_ ?_ ?_
    · exact ⟨fun _ => undef, fun _ => undef, fun _ => undef, rfl, (fun j _ h => by cases h), CI.zero _ _ _ _ _ _ ((Below.refl _ _).drew)⟩
    · rintro L ax wx ⟨V, Pt, Y, rfl, hY, hCI⟩ i oi hoi hLi hdep
      have hbx := hCI.bel
      have HB2x := Lib.hid (HB2.out.trans (hbx.mono HB2.out.size))
      match i, hoi, hLi, hdep with
      | 0, hoi, hLi, hdep =>
        injection hoi with hoi
        subst hoi
        (try simp [Region.binds] at hdep)
        obtain ⟨k1, k2, k3, k4, k5⟩ := HCW.out wx hbx
        refine wpOp_step rfl (fun K hK => ?_)
        go_simp
        try simp only [Act.put, List.setIfInBounds_toArray, List.set_cons_zero, List.set_cons_succ]
        exact hK _ _ ⟨V, Pt, updV Y 0 ((vyH h g hA eA sA lA hc ec sc lc sn late.length w.heap.size) 0), rfl, y_load (k := 0) (by omega) hY, ci_load (k := 0) (by omega) hCI⟩
      | 1, hoi, hLi, hdep =>
        injection hoi with hoi
        subst hoi
        simp [Region.binds] at hdep
        have hy : Y 0 = Value.slice hA h.length hc := hY 0 (by omega) hdep
        refine wpOp_step rfl (fun K hK => ?_)
        rw [hy]
        go_simp
        refine (cloneH_any hA hc h wx (HH.out.below HB2x.out) (by omega)).mono ?_
        rintro e w5 ⟨A5, c5, rfl, hO5, hb5⟩
        exact hK _ _ ⟨updV V 0 (.slice A5 h.length c5), Pt, updV Y 0 ((vyH h g hA eA sA lA hc ec sc lc sn late.length w.heap.size) 0), rfl, y_upd 0 (fun j hj => (yI_c j hj 0 (by omega)).1) hY, ci_call (k := 0) (by omega) (CI.call (k := 0) HF.out hCI (by omega) hLi hb5 ⟨A5, c5, rfl, hO5.mono hbx.size⟩ (fun b hb => by rw [blk_slice] at hb; exact (hO5.blk b hb).1))⟩
      | 2, hoi, hLi, hdep =>
        injection hoi with hoi
        subst hoi
        (try simp [Region.binds] at hdep)
        obtain ⟨k1, k2, k3, k4, k5⟩ := HCW.out wx hbx
        refine wpOp_step rfl (fun K hK => ?_)
        go_simp
        try simp only [Act.put, List.setIfInBounds_toArray, List.set_cons_zero, List.set_cons_succ]
        exact hK _ _ ⟨V, Pt, updV Y 1 ((vyH h g hA eA sA lA hc ec sc lc sn late.length w.heap.size) 1), rfl, y_load (k := 1) (by omega) hY, ci_load (k := 1) (by omega) hCI⟩
      | 3, hoi, hLi, hdep =>
        injection hoi with hoi
        subst hoi
        simp [Region.binds] at hdep
        have hy : Y 1 = Value.slice sA sn sc := hY 1 (by omega) hdep.1
        refine wpOp_step rfl (fun K hK => ?_)
        rw [hy]
        go_simp
        refine (cloneB sA sn sc (blobC T M) wx (HSS.out.below HB2x.out) (fun k => rfl) (fun k u hu => by simp [blobC] at hu; rcases hu with rfl | rfl <;> rfl) HSA.out (by omega)).mono ?_
        rintro e w5 ⟨v5, rfl, hO5, hb5⟩
        obtain ⟨A5, c5, rfl, -, -, -⟩ := own_any hO5
        exact hK _ _ ⟨updV V 1 (.slice A5 sn c5), Pt, updV Y 1 ((vyH h g hA eA sA lA hc ec sc lc sn late.length w.heap.size) 1), rfl, y_upd 1 (fun j hj => (yI_c j hj 1 (by omega)).1) hY, ci_call (k := 1) (by omega) (CI.call (k := 1) HF.out hCI (by omega) hLi hb5 ⟨A5, c5, rfl, own_mono hO5 hbx.size⟩ (fun b hb => by rw [blk_slice] at hb; exact (hO5.lt b hb).1))⟩
      | 4, hoi, hLi, hdep =>
        injection hoi with hoi
        subst hoi
        (try simp [Region.binds] at hdep)
        obtain ⟨k1, k2, k3, k4, k5⟩ := HCW.out wx hbx
        refine wpOp_step rfl (fun K hK => ?_)
        go_simp
        try simp only [Act.put, List.setIfInBounds_toArray, List.set_cons_zero, List.set_cons_succ]
        exact hK _ _ ⟨V, Pt, updV Y 2 ((vyH h g hA eA sA lA hc ec sc lc sn late.length w.heap.size) 2), rfl, y_load (k := 2) (by omega) hY, ci_load (k := 2) (by omega) hCI⟩
      | 5, hoi, hLi, hdep =>
        injection hoi with hoi
        subst hoi
        (try simp [Region.binds] at hdep)
        obtain ⟨k1, k2, k3, k4, k5⟩ := HCW.out wx hbx
        have hy := hY 2 (by omega) hdep
        have hy' : Y 2 = .pointer (some ⟨w.heap.size + 1 + 1, 0, none⟩) := hy
        refine wpOp_step rfl (fun K hK => ?_)
        rw [hy']
        go_simp
        try simp only [Act.put, List.setIfInBounds_toArray, List.set_cons_zero, List.set_cons_succ]
        exact hK _ _ ⟨V, Pt, updV (updV Y 2 ((vyH h g hA eA sA lA hc ec sc lc sn late.length w.heap.size) 2)) 3 ((vyH h g hA eA sA lA hc ec sc lc sn late.length w.heap.size) 3), rfl, by rw [updV_same (hY 2 (by omega) hdep)]; exact y_load (k := 3) (by omega) hY, ci_load (k := 3) (by omega) hCI⟩
      | 6, hoi, hLi, hdep =>
        injection hoi with hoi
        subst hoi
        simp [Region.binds] at hdep
        have hy : Y 3 = Value.slice eA g.length ec := hY 3 (by omega) hdep.1
        refine wpOp_step rfl (fun K hK => ?_)
        rw [hy]
        go_simp
        refine (cloneH_any eA ec g wx (HE.out.below HB2x.out) (by omega)).mono ?_
        rintro e w5 ⟨A5, c5, rfl, hO5, hb5⟩
        exact hK _ _ ⟨updV V 2 (.slice A5 g.length c5), Pt, updV Y 3 ((vyH h g hA eA sA lA hc ec sc lc sn late.length w.heap.size) 3), rfl, y_upd 3 (fun j hj => (yI_c j hj 2 (by omega)).1) hY, ci_call (k := 2) (by omega) (CI.call (k := 2) HF.out hCI (by omega) hLi hb5 ⟨A5, c5, rfl, hO5.mono hbx.size⟩ (fun b hb => by rw [blk_slice] at hb; exact (hO5.blk b hb).1))⟩
      | 7, hoi, hLi, hdep =>
        injection hoi with hoi
        subst hoi
        (try simp [Region.binds] at hdep)
        obtain ⟨k1, k2, k3, k4, k5⟩ := HCW.out wx hbx
        refine wpOp_step rfl (fun K hK => ?_)
        go_simp
        try simp only [Act.put, List.setIfInBounds_toArray, List.set_cons_zero, List.set_cons_succ]
        exact hK _ _ ⟨V, Pt, updV Y 4 ((vyH h g hA eA sA lA hc ec sc lc sn late.length w.heap.size) 4), rfl, y_load (k := 4) (by omega) hY, ci_load (k := 4) (by omega) hCI⟩
      | 8, hoi, hLi, hdep =>
        injection hoi with hoi
        subst hoi
        (try simp [Region.binds] at hdep)
        obtain ⟨k1, k2, k3, k4, k5⟩ := HCW.out wx hbx
        have hy := hY 4 (by omega) hdep
        have hy' : Y 4 = .pointer (some ⟨w.heap.size + 1 + 1, 2, none⟩) := hy
        refine wpOp_step rfl (fun K hK => ?_)
        rw [hy']
        go_simp
        try simp only [Act.put, List.setIfInBounds_toArray, List.set_cons_zero, List.set_cons_succ]
        exact hK _ _ ⟨V, Pt, updV (updV Y 4 ((vyH h g hA eA sA lA hc ec sc lc sn late.length w.heap.size) 4)) 5 ((vyH h g hA eA sA lA hc ec sc lc sn late.length w.heap.size) 5), rfl, by rw [updV_same (hY 4 (by omega) hdep)]; exact y_load (k := 5) (by omega) hY, ci_load (k := 5) (by omega) hCI⟩
      | 9, hoi, hLi, hdep =>
        injection hoi with hoi
        subst hoi
        simp [Region.binds] at hdep
        have hy : Y 5 = Value.slice lA late.length lc := hY 5 (by omega) hdep.1
        refine wpOp_step rfl (fun K hK => ?_)
        rw [hy]
        go_simp
        refine (cloneI_any lA lc late wx (HL.out.below HB2x.out) HLN.out (by omega)).mono ?_
        rintro e w5 ⟨A5, c5, rfl, hO5, hb5⟩
        exact hK _ _ ⟨updV V 3 (.slice A5 late.length c5), Pt, updV Y 5 ((vyH h g hA eA sA lA hc ec sc lc sn late.length w.heap.size) 5), rfl, y_upd 5 (fun j hj => (yI_c j hj 3 (by omega)).1) hY, ci_call (k := 3) (by omega) (CI.call (k := 3) HF.out hCI (by omega) hLi hb5 ⟨A5, c5, rfl, hO5.mono hbx.size⟩ (fun b hb => by rw [blk_slice] at hb; exact (hO5.blk b hb).1))⟩
      | 10, hoi, hLi, hdep =>
        injection hoi with hoi
        subst hoi
        refine wpOp_step rfl (fun K hK => ?_)
        go_simp
        try simp only [Act.put, List.setIfInBounds_toArray, List.set_cons_zero, List.set_cons_succ]
        exact hK _ _ ⟨V, updV Pt 0 (.pointer (some ⟨wx.heap.size, 0, none⟩)), Y, rfl, y_other (fun j hj => (yI_c j hj 0 (by omega)).2.1) hY, ci_alloc (k := 0) (by omega) (CI.alloc (k := 0) HF.out hCI (by omega) hLi 23)⟩
      | 11, hoi, hLi, hdep =>
        injection hoi with hoi
        subst hoi
        refine wpOp_step rfl (fun K hK => ?_)
        go_simp
        try simp only [Act.put, List.setIfInBounds_toArray, List.set_cons_zero, List.set_cons_succ]
        exact hK _ _ ⟨V, updV Pt 1 (.pointer (some ⟨wx.heap.size, 0, none⟩)), Y, rfl, y_other (fun j hj => (yI_c j hj 1 (by omega)).2.1) hY, ci_alloc (k := 1) (by omega) (CI.alloc (k := 1) HF.out hCI (by omega) hLi 58)⟩
      | 12, hoi, hLi, hdep =>
        injection hoi with hoi
        subst hoi
        refine wpOp_step rfl (fun K hK => ?_)
        go_simp
        try simp only [Act.put, List.setIfInBounds_toArray, List.set_cons_zero, List.set_cons_succ]
        exact hK _ _ ⟨V, updV Pt 2 (.pointer (some ⟨wx.heap.size, 0, none⟩)), Y, rfl, y_other (fun j hj => (yI_c j hj 2 (by omega)).2.1) hY, ci_alloc (k := 2) (by omega) (CI.alloc (k := 2) HF.out hCI (by omega) hLi 23)⟩
      | 13, hoi, hLi, hdep =>
        injection hoi with hoi
        subst hoi
        refine wpOp_step rfl (fun K hK => ?_)
        go_simp
        try simp only [Act.put, List.setIfInBounds_toArray, List.set_cons_zero, List.set_cons_succ]
        exact hK _ _ ⟨V, updV Pt 3 (.pointer (some ⟨wx.heap.size, 0, none⟩)), Y, rfl, y_other (fun j hj => (yI_c j hj 3 (by omega)).2.1) hY, ci_alloc (k := 3) (by omega) (CI.alloc (k := 3) HF.out hCI (by omega) hLi 24)⟩
      | 14, hoi, hLi, hdep =>
        injection hoi with hoi
        subst hoi
        simp [Region.binds] at hdep
        have hca : L 1 = true ∧ L 10 = true := ⟨hdep.2.1, hdep.1⟩
        obtain ⟨Ak, ck, hvk, -⟩ := hCI.row 0 (by omega) hca.1
        obtain ⟨bk, hpk, -, hltk, hck, hfk⟩ := hCI.box 0 (by omega) hca.2
        refine wpOp_step rfl (fun K hK => ?_)
        rw [hpk, hvk]
        go_simp
        try simp only [Act.put, List.setIfInBounds_toArray, List.set_cons_zero, List.set_cons_succ]
        refine hK _ _ ⟨updV V 0 (.slice Ak h.length ck), updV Pt 0 (.pointer (some ⟨bk, 0, none⟩)), Y, rfl, y_other (fun j hj => (yI_c j hj 0 (by omega)).2.2) hY, ?_⟩
        rw [updV_same hvk, updV_same hpk, ← hvk]
        exact ci_store (k := 0) (by omega) (CI.store (k := 0) HF.out hCI (by omega) hca.1 hca.2 hpk)
      | 15, hoi, hLi, hdep =>
        injection hoi with hoi
        subst hoi
        simp [Region.binds] at hdep
        have hca : L 3 = true ∧ L 11 = true := ⟨hdep.2.1, hdep.1⟩
        obtain ⟨Ak, ck, hvk, -⟩ := hCI.row 1 (by omega) hca.1
        obtain ⟨bk, hpk, -, hltk, hck, hfk⟩ := hCI.box 1 (by omega) hca.2
        refine wpOp_step rfl (fun K hK => ?_)
        rw [hpk, hvk]
        go_simp
        try simp only [Act.put, List.setIfInBounds_toArray, List.set_cons_zero, List.set_cons_succ]
        refine hK _ _ ⟨updV V 1 (.slice Ak sn ck), updV Pt 1 (.pointer (some ⟨bk, 0, none⟩)), Y, rfl, y_other (fun j hj => (yI_c j hj 1 (by omega)).2.2) hY, ?_⟩
        rw [updV_same hvk, updV_same hpk, ← hvk]
        exact ci_store (k := 1) (by omega) (CI.store (k := 1) HF.out hCI (by omega) hca.1 hca.2 hpk)
      | 16, hoi, hLi, hdep =>
        injection hoi with hoi
        subst hoi
        simp [Region.binds] at hdep
        have hca : L 6 = true ∧ L 12 = true := ⟨hdep.2.1, hdep.1⟩
        obtain ⟨Ak, ck, hvk, -⟩ := hCI.row 2 (by omega) hca.1
        obtain ⟨bk, hpk, -, hltk, hck, hfk⟩ := hCI.box 2 (by omega) hca.2
        refine wpOp_step rfl (fun K hK => ?_)
        rw [hpk, hvk]
        go_simp
        try simp only [Act.put, List.setIfInBounds_toArray, List.set_cons_zero, List.set_cons_succ]
        refine hK _ _ ⟨updV V 2 (.slice Ak g.length ck), updV Pt 2 (.pointer (some ⟨bk, 0, none⟩)), Y, rfl, y_other (fun j hj => (yI_c j hj 2 (by omega)).2.2) hY, ?_⟩
        rw [updV_same hvk, updV_same hpk, ← hvk]
        exact ci_store (k := 2) (by omega) (CI.store (k := 2) HF.out hCI (by omega) hca.1 hca.2 hpk)
      | 17, hoi, hLi, hdep =>
        injection hoi with hoi
        subst hoi
        simp [Region.binds] at hdep
        have hca : L 9 = true ∧ L 13 = true := ⟨hdep.2.1, hdep.1⟩
        obtain ⟨Ak, ck, hvk, -⟩ := hCI.row 3 (by omega) hca.1
        obtain ⟨bk, hpk, -, hltk, hck, hfk⟩ := hCI.box 3 (by omega) hca.2
        refine wpOp_step rfl (fun K hK => ?_)
        rw [hpk, hvk]
        go_simp
        try simp only [Act.put, List.setIfInBounds_toArray, List.set_cons_zero, List.set_cons_succ]
        refine hK _ _ ⟨updV V 3 (.slice Ak late.length ck), updV Pt 3 (.pointer (some ⟨bk, 0, none⟩)), Y, rfl, y_other (fun j hj => (yI_c j hj 3 (by omega)).2.2) hY, ?_⟩
        rw [updV_same hvk, updV_same hpk, ← hvk]
        exact ci_store (k := 3) (by omega) (CI.store (k := 3) HF.out hCI (by omega) hca.1 hca.2 hpk)
      | k + 18, hoi, hLi, hdep => cases hoi
    · rintro L ax wx ⟨V, Pt, Y, rfl, hY, hCI⟩ hall
      go_wp2_with fail
      go_meet
      exact ⟨V, Pt, rfl, rfl, rfl, rfl, hCI.congr (fun j hj => by rw [hall]; revert j; decide) (fun j hj => by rw [hall]; omega) (fun j hj => by rw [hall]; omega)⟩
  case rest =>
  obtain ⟨V, Pt, rfl, rfl, rfl, rfl, hCI⟩ := hcut
  obtain ⟨A15, d15, v15, r15⟩ := hCI.row 0 (by omega) rfl
  obtain ⟨A16, d16, v16, r16⟩ := hCI.row 1 (by omega) rfl
  obtain ⟨A17, d17, v17, r17⟩ := hCI.row 2 (by omega) rfl
  obtain ⟨A18, d18, v18, r18⟩ := hCI.row 3 (by omega) rfl
  obtain ⟨b15, e15, -, -, x15, -⟩ := hCI.box 0 (by omega) rfl
  obtain ⟨b16, e16, -, -, x16, -⟩ := hCI.box 1 (by omega) rfl
  obtain ⟨b17, e17, -, -, x17, -⟩ := hCI.box 2 (by omega) rfl
  obtain ⟨b18, e18, -, -, x18, -⟩ := hCI.box 3 (by omega) rfl
  rw [if_pos rfl] at x15 x16 x17 x18
  have hbc := hCI.bel
  have HB2C := Lib.hid (HB2.out.trans (hbc.mono HB2.out.size))
  have HB1C := Lib.hid (HB12.out.trans (hbc.mono HB12.out.size))
  obtain ⟨k7, k90, k91, k92, k12⟩ := HCW.out wc hbc
  have HSW := Lib.hid (show SameW wc w.heap.size b15 (w.heap.size + 1 + 1 + 1) b16 (w.heap.size + 1 + 1) b17 b18 h g late sn T M (.slice hA h.length hc) (V 0) (.slice sA sn sc) (V 1) (.slice eA g.length ec) (V 2) (.slice lA late.length lc) (V 3) from by
    refine ⟨k7, x15, k12, x16, k90, k92, x17, x18, ⟨_, _, rfl, HH.out.below HB2C.out⟩, ⟨A15, d15, v15, ?_⟩, ⟨_, _, rfl, HE.out.below HB2C.out⟩, ⟨A17, d17, v17, ?_⟩, ⟨_, _, rfl, HSS.out.below HB2C.out⟩, ⟨A16, d16, v16, ?_⟩, ⟨_, _, rfl, HL.out.below HB2C.out⟩, ⟨A18, d18, v18, ?_⟩⟩
    · rw [v15] at r15 ⊢; exact Su.of_own r15
    · rw [v17] at r17 ⊢; exact Su.of_own r17
    · rw [v16] at r16; exact Rd.of_own (fun k => rfl) r16
    · rw [v18] at r18; exact r18.rd)
  have HBX := Lib.hid (show BxH wc w.heap.size h g late o hA eA lA pA sA hc ec lc pc sn sc old z from ⟨k7, HO1.out.grown (grown_below (g := none) HB1C.out) (fun g hg => by cases hg), ⟨k90, k91, k92, World.block_lt_of_cell? wc _ k90⟩, k12⟩)
  have HSAME := Lib.hid (fun (W : World) (hb : Below wc.heap.size wc W) => same_any W w.heap.size b15 (w.heap.size + 1 + 1 + 1) b16 (w.heap.size + 1 + 1) b17 b18 h g late sn T M _ _ _ _ _ _ _ _ (HSW.out.below hb) (by omega) (by omega))
  rw [e15, e16, e17, e18]
  clear hCI hbc v15 v16 v17 v18 r15 r16 r17 r18 e15 e16 e17 e18 x15 x16 x17 x18 k90 k91 k92 k12
  obtain ⟨o0, o1, o2, o3, o4, oz⟩ := HBX.out.ob
  go_wp2_with fail
  refine (put_free h hA hc o z pA pc wc (by omega) (HH.out.below HB2C.out) (HP.out.below HB2C.out)).mono ?_
  rintro e w5 ⟨A5, l5, c5, z5, y5, rfl, hO5, hb5⟩
  have HO5 := Lib.hid hO5
  have HC5 := Lib.hid hb5
  have HBX5 := Lib.hid (HBX.out.below hb5)
  have HB25 := Lib.hid (HB2C.out.trans (hb5.mono HB2C.out.size))
  clear hO5 hb5 o0 o1 o2 o3 o4 oz k7
  have k7 := HBX5.out.c7
  obtain ⟨k90, k91, k92, k93⟩ := HBX5.out.ag
  go_wp2_with fail
  have HC_w5 := HC5
  have HX_w5 := HBX5
  have HR_b_w5 := HO5
  obtain ⟨wd, hwd, hwl⟩ : ∃ wd : Nat, IntKind.u64.wrap (wrap64 ((wrap64 (8 * max a 0)).tmod 4096 + 4)) = (wd : Int) ∧ wd < 18446744073709551616 := by
    generalize wrap64 ((wrap64 (8 * max a 0)).tmod 4096 + 4) = r
    refine ⟨(IntKind.u64.wrap r).toNat, ?_, ?_⟩ <;> (simp [IntKind.wrap, IntKind.signed, IntKind.bits]; omega)
  rw [hwd]
  refine (over_free h g hA eA hc ec wd w5 (HH.out.below (HB2C.out.trans (HC_w5.out.mono HB2C.out.size))) (HE.out.below (HB2C.out.trans (HC_w5.out.mono HB2C.out.size))) H64.out G64.out (by omega) (by omega) hwl).mono ?_
  rintro e w6 ⟨A6, l6, c6, B6, m6, d6, q6, y6, rfl, hO6, hP6, hb6⟩
  have HC_w6 := Lib.hid (HC_w5.out.trans (hb6.mono HC_w5.out.size))
  have HX_w6 := Lib.hid (HX_w5.out.below hb6)
  have HR_b_w6 := Lib.hid (HR_b_w5.out.below hb6)
  have HR_c_w6 := Lib.hid (hO6.mono HC_w5.out.size)
  have HR_d_w6 := Lib.hid (hP6.mono HC_w5.out.size)
  clear hO6 hP6 hb6 hwd hwl k7 k90 k91 k92 k93
  obtain ⟨k90, k91, k92, k93⟩ := HX_w6.out.ag
  go_wp2_with fail
  refine (minor_free g roots eA lA rA ec lc rc old late w6 (HE.out.below (HB2C.out.trans (HC_w6.out.mono HB2C.out.size))) G64.out (by omega) (HL.out.below (HB2C.out.trans (HC_w6.out.mono HB2C.out.size))) (by omega) HWL.out HWO.out (HR.out.below (HB2C.out.trans (HC_w6.out.mono HB2C.out.size))) R64.out (by have := HRN.out; omega)).mono ?_
  rintro e w7 ⟨A7, l7, c7, o7, B7, m7, d7, y7, rfl, hO7, hb7⟩
  have HC_w7 := Lib.hid (HC_w6.out.trans (hb7.mono HC_w6.out.size))
  have HX_w7 := Lib.hid (HX_w6.out.below hb7)
  have HR_b_w7 := Lib.hid (HR_b_w6.out.below hb7)
  have HR_c_w7 := Lib.hid (HR_c_w6.out.below hb7)
  have HR_d_w7 := Lib.hid (HR_d_w6.out.below hb7)
  have HR_e_w7 := Lib.hid (hO7.mono HC_w6.out.size)
  clear hO7 hb7 k90 k91 k92 k93
  obtain ⟨W7, hW7⟩ : ∃ W7, W7 = w7.alloc (.cells #[.slice A7 l7.length c7, .int .i64 o7, .slice none 0 0] 26) := ⟨_, rfl⟩
  have HS_W7 := Lib.hid (show Below w7.heap.size w7 W7 by rw [hW7]; exact (Below.refl _ _).alloc (Nat.le_refl _) _)
  have HG_e_W7 := Lib.hid (show AgB W7 w7.heap.size A7 l7.length c7 o7 none 0 0 by rw [hW7]; exact AgB.new w7 A7 l7.length c7 o7 none 0 0 26)
  have HE_W7 := Lib.hid hW7
  clear hW7
  have HC_W7 := Lib.hid (HC_w7.out.trans (HS_W7.out.mono HC_w7.out.size))
  have HX_W7 := Lib.hid (HX_w7.out.below HS_W7.out)
  have HR_b_W7 := Lib.hid (HR_b_w7.out.below HS_W7.out)
  have HR_c_W7 := Lib.hid (HR_c_w7.out.below HS_W7.out)
  have HR_d_W7 := Lib.hid (HR_d_w7.out.below HS_W7.out)
  have HR_e_W7 := Lib.hid (HR_e_w7.out.below HS_W7.out)
  obtain ⟨k90, k91, k92, k93⟩ := HX_w7.out.ag
  go_wp2_with fail
  rw [← HE_W7.out]
  clear HE_W7
  refine (major_free g roots eA lA rA ec lc rc old late W7 (HE.out.below (HB2C.out.trans (HC_W7.out.mono HB2C.out.size))) G64.out (by omega) (HL.out.below (HB2C.out.trans (HC_W7.out.mono HB2C.out.size))) (by omega) HWL.out HWO.out (HR.out.below (HB2C.out.trans (HC_W7.out.mono HB2C.out.size))) R64.out (by have := HRN.out; omega)).mono ?_
  rintro e w8 ⟨A8, l8, c8, o8, B8, m8, d8, y8, rfl, hO8, hb8⟩
  have HC_w8 := Lib.hid (HC_W7.out.trans (hb8.mono HC_W7.out.size))
  have HX_w8 := Lib.hid (HX_W7.out.below hb8)
  have HR_b_w8 := Lib.hid (HR_b_W7.out.below hb8)
  have HR_c_w8 := Lib.hid (HR_c_W7.out.below hb8)
  have HR_d_w8 := Lib.hid (HR_d_W7.out.below hb8)
  have HR_e_w8 := Lib.hid (HR_e_W7.out.below hb8)
  have HG_e_w8 := Lib.hid (HG_e_W7.out.below hb8)
  have HR_f_w8 := Lib.hid (hO8.mono HC_W7.out.size)
  clear hO8 hb8 k90 k91 k92 k93
  obtain ⟨W8, hW8⟩ : ∃ W8, W8 = w8.alloc (.cells #[.slice A8 l8.length c8, .int .i64 o8, .slice none 0 0] 26) := ⟨_, rfl⟩
  have HS_W8 := Lib.hid (show Below w8.heap.size w8 W8 by rw [hW8]; exact (Below.refl _ _).alloc (Nat.le_refl _) _)
  have HG_f_W8 := Lib.hid (show AgB W8 w8.heap.size A8 l8.length c8 o8 none 0 0 by rw [hW8]; exact AgB.new w8 A8 l8.length c8 o8 none 0 0 26)
  have HE_W8 := Lib.hid hW8
  clear hW8
  have HC_W8 := Lib.hid (HC_w8.out.trans (HS_W8.out.mono HC_w8.out.size))
  have HX_W8 := Lib.hid (HX_w8.out.below HS_W8.out)
  have HR_b_W8 := Lib.hid (HR_b_w8.out.below HS_W8.out)
  have HR_c_W8 := Lib.hid (HR_c_w8.out.below HS_W8.out)
  have HR_d_W8 := Lib.hid (HR_d_w8.out.below HS_W8.out)
  have HR_e_W8 := Lib.hid (HR_e_w8.out.below HS_W8.out)
  have HR_f_W8 := Lib.hid (HR_f_w8.out.below HS_W8.out)
  have HG_e_W8 := Lib.hid (HG_e_w8.out.below HS_W8.out)
  obtain ⟨k90, k91, k92, k93⟩ := HX_w8.out.ag
  go_wp2_with fail
  rw [← HE_W8.out]
  clear HE_W8
  refine (set_free g eA lA ec lc old late a 0 W8 (HE.out.below (HB2C.out.trans (HC_W8.out.mono HB2C.out.size))) G64.out (by omega) (HL.out.below (HB2C.out.trans (HC_W8.out.mono HB2C.out.size))) HLN.out (by omega) HWL.out HWO.out HWA.out (by omega)).mono ?_
  rintro e w9 ⟨A9, l9, c9, o9, B9, m9, d9, y9, rfl, hO9, hI9, hb9⟩
  have HC_w9 := Lib.hid (HC_W8.out.trans (hb9.mono HC_W8.out.size))
  have HX_w9 := Lib.hid (HX_W8.out.below hb9)
  have HR_b_w9 := Lib.hid (HR_b_W8.out.below hb9)
  have HR_c_w9 := Lib.hid (HR_c_W8.out.below hb9)
  have HR_d_w9 := Lib.hid (HR_d_W8.out.below hb9)
  have HR_e_w9 := Lib.hid (HR_e_W8.out.below hb9)
  have HR_f_w9 := Lib.hid (HR_f_W8.out.below hb9)
  have HG_e_w9 := Lib.hid (HG_e_W8.out.below hb9)
  have HG_f_w9 := Lib.hid (HG_f_W8.out.below hb9)
  have HR_g_w9 := Lib.hid (hO9.mono HC_W8.out.size)
  have HR_t_w9 := Lib.hid (hI9.mono HC_W8.out.size)
  clear hO9 hI9 hb9 k90 k91 k92 k93
  obtain ⟨W9, hW9⟩ : ∃ W9, W9 = w9.alloc (.cells #[.slice A9 l9.length c9, .int .i64 o9, .slice B9 m9.length d9] 26) := ⟨_, rfl⟩
  have HS_W9 := Lib.hid (show Below w9.heap.size w9 W9 by rw [hW9]; exact (Below.refl _ _).alloc (Nat.le_refl _) _)
  have HG_g_W9 := Lib.hid (show AgB W9 w9.heap.size A9 l9.length c9 o9 B9 m9.length d9 by rw [hW9]; exact AgB.new w9 A9 l9.length c9 o9 B9 m9.length d9 26)
  have HE_W9 := Lib.hid hW9
  clear hW9
  have HC_W9 := Lib.hid (HC_w9.out.trans (HS_W9.out.mono HC_w9.out.size))
  have HX_W9 := Lib.hid (HX_w9.out.below HS_W9.out)
  have HR_b_W9 := Lib.hid (HR_b_w9.out.below HS_W9.out)
  have HR_c_W9 := Lib.hid (HR_c_w9.out.below HS_W9.out)
  have HR_d_W9 := Lib.hid (HR_d_w9.out.below HS_W9.out)
  have HR_e_W9 := Lib.hid (HR_e_w9.out.below HS_W9.out)
  have HR_f_W9 := Lib.hid (HR_f_w9.out.below HS_W9.out)
  have HR_g_W9 := Lib.hid (HR_g_w9.out.below HS_W9.out)
  have HR_t_W9 := Lib.hid (HR_t_w9.out.below HS_W9.out)
  have HG_e_W9 := Lib.hid (HG_e_w9.out.below HS_W9.out)
  have HG_f_W9 := Lib.hid (HG_f_w9.out.below HS_W9.out)
  have k12 := HX_w9.out.c12
  have k12l := World.block_lt_of_cell? w9 _ k12
  go_wp2_with fail
  rw [← HE_W9.out]
  clear HE_W9 k12 k12l
  refine (hold_own sA sn sc T M x W9 hsc hscm HSA.out (HSS.out.below (HB2C.out.trans (HC_W9.out.mono HB2C.out.size)))).mono ?_
  rintro e wA ⟨BA, mA, dA, kA, yA, rfl, hOA, hbA⟩
  have HC_wA := Lib.hid (HC_W9.out.trans (hbA.mono HC_W9.out.size))
  have HX_wA := Lib.hid (HX_W9.out.below hbA)
  have HR_b_wA := Lib.hid (HR_b_W9.out.below hbA)
  have HR_c_wA := Lib.hid (HR_c_W9.out.below hbA)
  have HR_d_wA := Lib.hid (HR_d_W9.out.below hbA)
  have HR_e_wA := Lib.hid (HR_e_W9.out.below hbA)
  have HR_f_wA := Lib.hid (HR_f_W9.out.below hbA)
  have HR_g_wA := Lib.hid (HR_g_W9.out.below hbA)
  have HR_t_wA := Lib.hid (HR_t_W9.out.below hbA)
  have HG_e_wA := Lib.hid (HG_e_W9.out.below hbA)
  have HG_f_wA := Lib.hid (HG_f_W9.out.below hbA)
  have HG_g_wA := Lib.hid (HG_g_W9.out.below hbA)
  have HR_i_wA := Lib.hid (hOA.base HC_W9.out.size)
  clear hOA hbA
  have k12 := HX_wA.out.c12
  go_wp2_with fail
  refine (let_own sA sn sc T M a wA hsc hscm (HSS.out.below (HB2C.out.trans (HC_wA.out.mono HB2C.out.size)))).mono ?_
  rintro e wB ⟨BB, mB, dB, kB, yB, rfl, hOB, hbB⟩
  have HC_wB := Lib.hid (HC_wA.out.trans (hbB.mono HC_wA.out.size))
  have HX_wB := Lib.hid (HX_wA.out.below hbB)
  have HR_b_wB := Lib.hid (HR_b_wA.out.below hbB)
  have HR_c_wB := Lib.hid (HR_c_wA.out.below hbB)
  have HR_d_wB := Lib.hid (HR_d_wA.out.below hbB)
  have HR_e_wB := Lib.hid (HR_e_wA.out.below hbB)
  have HR_f_wB := Lib.hid (HR_f_wA.out.below hbB)
  have HR_g_wB := Lib.hid (HR_g_wA.out.below hbB)
  have HR_t_wB := Lib.hid (HR_t_wA.out.below hbB)
  have HR_i_wB := Lib.hid (HR_i_wA.out.below hbB)
  have HG_e_wB := Lib.hid (HG_e_wA.out.below hbB)
  have HG_f_wB := Lib.hid (HG_f_wA.out.below hbB)
  have HG_g_wB := Lib.hid (HG_g_wA.out.below hbB)
  have HR_k_wB := Lib.hid (hOB.base HC_wA.out.size)
  have HNE := Lib.hid (show ∀ b, (Value.slice BA mA dA).ownBlock = some b → (Value.slice BB mB dB).ownBlock ≠ some b from fun b hb1 hb2 => by
    obtain ⟨T1, M1, r1⟩ := HR_i_wA.out
    obtain ⟨T2, M2, r2⟩ := hOB
    have := (r1.lt b hb1).2
    have := (r2.lt b hb2).1
    omega)
  clear hOB hbB k12
  go_wp2_with fail
  refine (HSAME.out wB HC_wB.out).mono ?_
  rintro e wC ⟨rfl, hbC⟩
  have HC_wC := Lib.hid (HC_wB.out.trans (hbC.mono HC_wB.out.size))
  have HX_wC := Lib.hid (HX_wB.out.below hbC)
  have HR_b_wC := Lib.hid (HR_b_wB.out.below hbC)
  have HR_c_wC := Lib.hid (HR_c_wB.out.below hbC)
  have HR_d_wC := Lib.hid (HR_d_wB.out.below hbC)
  have HR_e_wC := Lib.hid (HR_e_wB.out.below hbC)
  have HR_f_wC := Lib.hid (HR_f_wB.out.below hbC)
  have HR_g_wC := Lib.hid (HR_g_wB.out.below hbC)
  have HR_t_wC := Lib.hid (HR_t_wB.out.below hbC)
  have HR_i_wC := Lib.hid (HR_i_wB.out.below hbC)
  have HR_k_wC := Lib.hid (HR_k_wB.out.below hbC)
  have HG_e_wC := Lib.hid (HG_e_wB.out.below hbC)
  have HG_f_wC := Lib.hid (HG_f_wB.out.below hbC)
  have HG_g_wC := Lib.hid (HG_g_wB.out.below hbC)
  clear hbC
  obtain ⟨p0, -, -, -⟩ := HG_e_wC.out
  obtain ⟨q0, -, -, -⟩ := HG_f_wC.out
  obtain ⟨r0, r1, r2, r3⟩ := HG_g_wC.out
  go_wp2_with fail
  obtain ⟨VV, hVV⟩ : ∃ VV : Nat → Value, VV = fun k => [Value.slice A5 l5.length c5, .slice A6 l6.length c6, .slice B6 m6.length d6, .slice A7 l7.length c7, .slice A8 l8.length c8, .slice A9 l9.length c9].getD k undef := ⟨_, rfl⟩
  have HIX := Lib.hid (show ∀ (k : Nat), k < 6 → ∀ W : World, (Instr.index 74 (.agg #[.slice A5 l5.length c5, .slice A6 l6.length c6, .slice B6 m6.length d6, .slice A7 l7.length c7, .slice A8 l8.length c8, .slice A9 l9.length c9]) (.int .i64 (k : Int))).run Try.prog W = .ok (VV k) W from fun k hk => idx6 _ _ _ _ _ _ VV (by rw [hVV]; rfl) (by rw [hVV]; rfl) (by rw [hVV]; rfl) (by rw [hVV]; rfl) (by rw [hVV]; rfl) (by rw [hVV]; rfl) (fun k hk => by
    rw [hVV]
    match k, hk with
    | 0, _ => exact ⟨_, _, _, rfl⟩
    | 1, _ => exact ⟨_, _, _, rfl⟩
    | 2, _ => exact ⟨_, _, _, rfl⟩
    | 3, _ => exact ⟨_, _, _, rfl⟩
    | 4, _ => exact ⟨_, _, _, rfl⟩
    | 5, _ => exact ⟨_, _, _, rfl⟩) hk)
  have HFH := Lib.hid (show FH wc VV (.slice B9 m9.length d9) m9.length w9.heap.size A9 l9.length c9 o9 B9 d9 (.slice BA mA dA) (.slice BB mB dB) mA mB wC from by
    refine ⟨HC_wC.out, fun k hk => ?_, ⟨m9, rfl, HR_t_wC.out⟩, HR_i_wC.out, HR_k_wC.out, HG_g_wC.out, fun k hk b hb => ?_, fun b hb => ?_, HNE.out⟩
    · rw [hVV]
      match k, hk with
      | 0, _ => exact ⟨l5, A5, c5, rfl, HR_b_wC.out⟩
      | 1, _ => exact ⟨l6, A6, c6, rfl, HR_c_wC.out⟩
      | 2, _ => exact ⟨m6, B6, d6, rfl, HR_d_wC.out⟩
      | 3, _ => exact ⟨l7, A7, c7, rfl, HR_e_wC.out⟩
      | 4, _ => exact ⟨l8, A8, c8, rfl, HR_f_wC.out⟩
      | 5, _ => exact ⟨l9, A9, c9, rfl, HR_g_wC.out⟩
    · rw [hVV] at hb
      match k, hk, hb with
      | 0, _, hb => have := (HR_b_w9.out.blk b hb).2; omega
      | 1, _, hb => have := (HR_c_w9.out.blk b hb).2; omega
      | 2, _, hb => have := (HR_d_w9.out.blk b hb).2; omega
      | 3, _, hb => have := (HR_e_w9.out.blk b hb).2; omega
      | 4, _, hb => have := (HR_f_w9.out.blk b hb).2; omega
      | 5, _, hb => have := (HR_g_w9.out.blk b hb).2; omega
    · have := (HR_t_w9.out.blk b hb).2; omega)
  clear hVV
  clear p0 q0 r0 r1 r2 r3
  go_loopw [136] (fun x136 wr => ∃ k : Nat, k ≤ 6 ∧ x136 = .int .i64 (k : Int) ∧ FH wc VV (.slice B9 m9.length d9) m9.length w9.heap.size A9 l9.length c9 o9 B9 d9 (.slice BA mA dA) (.slice BB mB dB) mA mB wr) (fun x136 _ => 6 - (intOf x136).toNat)
  case atStart => exact ⟨0, by omega, rfl, HFH.out⟩
  case round =>
    obtain ⟨k, hk6, rfl, hF⟩ := hrel
    have HF1 := Lib.hid hF
    clear hF
    by_cases hk : k < 6
    · have hix := HIX.out k hk
      obtain ⟨l, A, c, hv, hO⟩ := HF1.out.heaps k hk
      rw [hv] at hix
      have HV := Lib.hid hv
      obtain ⟨ln, hln⟩ : ∃ ln, l.length = ln := ⟨_, rfl⟩
      rw [hln] at hix
      have HLN := Lib.hid hln
      have hcap : ln ≤ 9223372036854775807 := by
        obtain ⟨_, _, e, h1, h2, _⟩ := own_any hO
        rw [hv] at e
        injection e with _ e2 e3
        omega
      have hd6 : decide ((k : Int) < 6) = true := decide_eq_true (by omega)
      clear hv hO hln
      go_wp2_with fail
      go_loopw [141] (fun x141 wr => ∃ j : Nat, j ≤ ln ∧ x141 = .int .i64 (j : Int) ∧ FH wc VV (.slice B9 m9.length d9) m9.length w9.heap.size A9 l9.length c9 o9 B9 d9 (.slice BA mA dA) (.slice BB mB dB) mA mB wr) (fun x141 _ => ln - (intOf x141).toNat)
      case atStart => exact ⟨0, by omega, rfl, HF1.out⟩
      case round =>
        obtain ⟨j, hjn, rfl, hF2⟩ := hrel
        have HF2 := Lib.hid hF2
        clear hF2
        by_cases hj : j < ln
        · obtain ⟨l2, A2, c2, hv2, hO2⟩ := HF2.out.heaps k hk
          have e0 := HV.out.symm.trans hv2
          injection e0 with e1 e2 e3
          subst e1 e3
          have hl2 : l2.length = ln := by rw [← HLN.out]; exact e2.symm
          rw [hv2] at hO2
          obtain ⟨bG, cap, hvg, -, -, -⟩ := own_form hO2 (by omega)
          injection hvg with hvg1 _ hvg3
          subst hvg1 hvg3
          obtain ⟨cj, fj⟩ := u_cell hO2 (j := j) (by omega)
          have HV2 := Lib.hid hv2
          obtain ⟨y, hy, hyl⟩ : ∃ y : Nat, IntKind.u64.wrap (((nth l2 j : Nat) : Int) + 1) = (y : Int) ∧ y < 18446744073709551616 := by
            generalize (((nth l2 j : Nat) : Int) + 1) = r
            refine ⟨(IntKind.u64.wrap r).toNat, ?_, ?_⟩ <;> (simp [IntKind.wrap, IntKind.signed, IntKind.bits]; omega)
          obtain ⟨xj, hxj⟩ : ∃ xj, nth l2 j = xj := ⟨_, rfl⟩
          rw [hxj] at cj hy
          have j0 : (0 : Int) ≤ (j : Int) := by omega
          have j1 : (j : Int) < (ln : Int) := by omega
          have HY := Lib.hid hy
          clear hv2 hO2 hl2 e2 hxj hy hyl
          go_wp2_with fail
          refine ⟨⟨j + 1, by omega, by go_num, by rw [HY.out]; exact HF2.out.storeU hk HV2.out j y⟩, by simp [intOf]; omega⟩
        · have hjl : decide ((j : Int) < (ln : Int)) = false := decide_eq_false (by omega)
          go_wp2_with fail
          refine ⟨⟨k + 1, by omega, by go_num, HF2.out⟩, by simp [intOf]; omega⟩
    · have hd6 : decide ((k : Int) < 6) = false := decide_eq_false (by omega)
      have hgx := HF1.out.gx
      obtain ⟨r0, r1, r2, r3⟩ := hgx
      obtain ⟨mn, hmn⟩ : ∃ mn, m9.length = mn := ⟨_, rfl⟩
      rw [hmn] at HF1 r2 HFH
      have HMN := Lib.hid hmn
      have hcap9 : mn ≤ 9223372036854775807 := by
        obtain ⟨ll, hll, hl⟩ := HF1.out.late
        obtain ⟨_, _, e, h1, h2, _⟩ := own_any hl
        injection e with _ e2 e3
        omega
      clear hmn
      go_wp2_with fail
      go_loopw [155] (fun x155 wr => ∃ j : Nat, j ≤ mn ∧ x155 = .int .i64 (j : Int) ∧ FH wc VV (.slice B9 mn d9) mn w9.heap.size A9 l9.length c9 o9 B9 d9 (.slice BA mA dA) (.slice BB mB dB) mA mB wr) (fun x155 _ => mn - (intOf x155).toNat)
      case atStart => exact ⟨0, by omega, rfl, HF1.out⟩
      case round =>
        obtain ⟨j, hjn, rfl, hF2⟩ := hrel
        have HF2 := Lib.hid hF2
        obtain ⟨r0, r1, r2, r3⟩ := hF2.gx
        clear hF2
        by_cases hj : j < mn
        · obtain ⟨l2, hl2, hO2⟩ := HF2.out.late
          rw [← hl2] at hO2
          obtain ⟨bG, cap, hvg, -, -, -⟩ := own_form hO2 (by omega)
          injection hvg with hvg1 _ hvg3
          subst hvg1 hvg3
          obtain ⟨cj, fj⟩ := i_cell hO2 (j := j) (by omega)
          obtain ⟨xj, hxj⟩ : ∃ xj, lst l2 j = xj := ⟨_, rfl⟩
          rw [hxj] at cj
          have j0 : (0 : Int) ≤ (j : Int) := by omega
          have j1 : (j : Int) < (mn : Int) := by omega
          clear hO2 hl2 hxj
          go_wp2_with fail
          refine ⟨⟨j + 1, by omega, by go_num, HF2.out.storeI rfl j _⟩, by simp [intOf]; omega⟩
        · have hjl : decide ((j : Int) < (mn : Int)) = false := decide_eq_false (by omega)
          obtain ⟨sv, hsv⟩ : ∃ sv : Nat → Value, sv = fun k => [Value.slice BA mA dA, .slice BB mB dB].getD k undef := ⟨_, rfl⟩
          have HIX2 := Lib.hid (show ∀ (k : Nat), k < 2 → ∀ W : World, (Instr.index 75 (.agg #[.slice BA mA dA, .slice BB mB dB]) (.int .i64 (k : Int))).run Try.prog W = .ok (sv k) W from fun k hk => idx2 _ _ sv (by rw [hsv]; rfl) (by rw [hsv]; rfl) (fun k hk => by
            rw [hsv]
            match k, hk with
            | 0, _ => exact ⟨_, _, _, rfl⟩
            | 1, _ => exact ⟨_, _, _, rfl⟩) hk)
          have HFS := Lib.hid (show FS wc sv wr from by
            refine ⟨HF2.out.bel, fun k hk => ?_, fun i j b hi hj hne h1 h2 => ?_⟩
            · rw [hsv]
              match k, hk with
              | 0, _ => exact ⟨BA, mA, dA, rfl, HF2.out.s1⟩
              | 1, _ => exact ⟨BB, mB, dB, rfl, HF2.out.s2⟩
            · rw [hsv] at h1 h2
              match i, j, hi, hj, hne, h1, h2 with
              | 0, 1, _, _, _, h1, h2 => exact HF2.out.sne b h1 h2
              | 1, 0, _, _, _, h1, h2 => exact HF2.out.sne b h2 h1
              | 0, 0, _, _, hne, _, _ => exact hne rfl
              | 1, 1, _, _, hne, _, _ => exact hne rfl)
          clear hsv r0 r1 r2 r3
          go_wp2_with fail
          go_loopw [169] (fun x169 wr => ∃ k : Nat, k ≤ 2 ∧ x169 = .int .i64 (k : Int) ∧ FS wc sv wr) (fun x169 _ => 2 - (intOf x169).toNat)
          case atStart => exact ⟨0, by omega, rfl, HFS.out⟩
          case round =>
            obtain ⟨q, hq2, rfl, hG⟩ := hrel
            have HG1 := Lib.hid hG
            clear hG
            by_cases hq : q < 2
            · have hix := HIX2.out q hq
              obtain ⟨A, nq, c, hv, hO⟩ := HG1.out.st q hq
              rw [hv] at hix
              have HV := Lib.hid hv
              have hcap : nq ≤ 9223372036854775807 := by
                obtain ⟨_, _, hO⟩ := hO
                obtain ⟨_, _, e, h1, h2, _⟩ := own_any hO
                rw [hv] at e
                injection e with _ e2 e3
                omega
              have hd2 : decide ((q : Int) < 2) = true := decide_eq_true (by omega)
              clear hv hO
              go_wp2_with fail
              go_loopw [174] (fun x174 wr => ∃ j : Nat, j ≤ nq ∧ x174 = .int .i64 (j : Int) ∧ FS wc sv wr) (fun x174 _ => nq - (intOf x174).toNat)
              case atStart => exact ⟨0, by omega, rfl, HG1.out⟩
              case round =>
                obtain ⟨j2, hjn2, rfl, hG2⟩ := hrel
                have HG2 := Lib.hid hG2
                clear hG2
                by_cases hj2 : j2 < nq
                · obtain ⟨A2, n2, c2, hv2, T2, M2, hO2⟩ := HG2.out.st q hq
                  have e0 := HV.out.symm.trans hv2
                  injection e0 with e1 e2 e3
                  subst e1 e2 e3
                  rw [hv2] at hO2
                  obtain ⟨bG, cap, hvg, -, -, -⟩ := own_form hO2 (by omega)
                  injection hvg with hvg1 _ hvg3
                  subst hvg1 hvg3
                  have cj : wr.cell? ⟨bG, j2 * 2 + 1, none⟩ = some (.int .i64 (M2 j2)) := by
                    rw [hO2.cellAt _ (by omega), flatC_get (blobC_len T2 M2) hj2 (by omega)]; rfl
                  have fj : wr.frozen? ⟨bG, j2 * 2 + 1, none⟩ = false := hO2.frozenAt _
                  obtain ⟨xj, hxj⟩ : ∃ xj, M2 j2 = xj := ⟨_, rfl⟩
                  rw [hxj] at cj
                  have j0 : (0 : Int) ≤ (j2 : Int) := by omega
                  have j1 : (j2 : Int) < (nq : Int) := by omega
                  clear hv2 hO2 hxj
                  go_wp2_with fail
                  refine ⟨⟨j2 + 1, by omega, by go_num, HG2.out.store hq HV.out hj2 _⟩, by simp [intOf]; omega⟩
                · have hjl2 : decide ((j2 : Int) < (nq : Int)) = false := decide_eq_false (by omega)
                  go_wp2_with fail
                  refine ⟨⟨q + 1, by omega, by go_num, HG2.out⟩, by simp [intOf]; omega⟩
            · have hd2 : decide ((q : Int) < 2) = false := decide_eq_false (by omega)
              go_wp2_with fail
              refine (HSAME.out wr HG1.out.bel).mono ?_
              rintro e wF ⟨rfl, hbF⟩
              have HBF := Lib.hid (HG1.out.bel.trans (hbF.mono HG1.out.bel.size))
              clear hbF
              go_wp2_with fail
              go_ret
              exact ⟨rfl, HB2C.out.trans (HBF.out.mono HB2C.out.size)⟩
set_option maxRecDepth 100000 in
theorem heapOwn_walk {H : Type} {enc : TypeId × Value → H} (W : World) (base : Nat) (v0 v1 v2 v3 v4 v5 v6 : Value) {d0 d1 d2 d3 d4 d5 d6 : DataW H} {p0 p1 p2 p3 p4 p5 p6 : List MemPlace}
    (k0 : Value.okWide Try.prog W .any base 23 v0) (k1 : Value.okWide Try.prog W .any base 33 v1) (k2 : Value.okWide Try.prog W .any base 26 v2) (k3 : Value.okWide Try.prog W .any base 22 v3) (k4 : Value.okWide Try.prog W .any base 3 v4) (k5 : Value.okWide Try.prog W .any base 58 v5) (k6 : Value.okWide Try.prog W .any base 9 v6)
    (h0 : DataW.Trod enc Try.prog W 0 (fun _ => true) true 23 v0 d0 p0) (h1 : DataW.Trod enc Try.prog W 0 (fun _ => true) true 33 v1 d1 p1) (h2 : DataW.Trod enc Try.prog W 0 (fun _ => true) true 26 v2 d2 p2) (h3 : DataW.Trod enc Try.prog W 0 (fun _ => true) true 22 v3 d3 p3) (h4 : DataW.Trod enc Try.prog W 0 (fun _ => true) true 3 v4 d4 p4) (h5 : DataW.Trod enc Try.prog W 0 (fun _ => true) true 58 v5 d5 p5) (h6 : DataW.Trod enc Try.prog W 0 (fun _ => true) true 9 v6 d6 p6) (hk : Rows.uptoSmall H [d0, d1, d2, d3, d4, d5, d6] = true) :
    Calls Try.prog 8 #[v0, v1, v2, v3, v4, v5, v6] W fun e W' => e = .returned (.bool true) ∧ Below W.heap.size W W' := by
  obtain ⟨b0, b2, b3, b5⟩ := bulk_seven hk
  obtain ⟨A, c, h, rfl, hH, h64, hl⟩ := open_heapU k0 h0
  obtain ⟨z, o, pA, pc, rfl, hP, hp64, hnum, hpl⟩ := open_obj k1 h1
  obtain ⟨eA, ec, g, old, lA, lc, late, rfl, hE, g64, hgl, hL, hLn, hll, hwl, hwo⟩ := open_agesU k2 h2
  obtain ⟨rA, rc, roots, rfl, hR, r64, hrl⟩ := open_rootsU k3 h3
  obtain ⟨a4, rfl, _, _, hwa⟩ := open_int Try.underlying3 k4 h4
  obtain ⟨sA, sn, sc, T, M, rfl, hsc, hscm, hsA, hS, hsn⟩ := open_storeU k5 h5
  obtain ⟨x, rfl⟩ : ∃ x, v6 = .string x := by
    obtain ⟨fuel, hf⟩ := h6
    obtain ⟨s, e, _⟩ := okWide_string Try.underlying9 k6
    exact ⟨_, rfl⟩
  exact heapOwn_go h g roots A lA rA pA eA sA c lc rc pc ec sc sn old a4 z late o T M x W hH h64 (by omega) hP hE g64 (by omega) hL hLn (by omega) hwl hwo hwa hR r64 hS hsA (by omega) hsc hscm
end Go.Proofs.Ytkdbnkkdohkhjaa
