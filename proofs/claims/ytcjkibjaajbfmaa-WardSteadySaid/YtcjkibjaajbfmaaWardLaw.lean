/- ward.Down whatever is asked; the closed fact of the laws on supervisors; opening a supervisor that is an argument. -/
import Derived.Test.YtcjkibjaajbfmaaWardDown3
import Derived.Test.YtcjkibjaajbfmaaOpen
namespace Go.Proofs.Ytcjkibjaajbfmaa
open Go.RowKit Go.ChangeShapes Go.WideShapes
set_option linter.unusedVariables false
def DownAll (W : Wd) (id : Int) (failed : Bool) (now : Int) (w : World) (e : Ending) (w' : World) : Prop :=
  (DownErr w e w' ∧ ¬ ∃ i, DownOk W id now i) ∨ ∃ i, DownOk W id now i ∧ DownPost W i failed now w e w'
theorem ix_ok {W : Wd} {id : Int} (ok : OkW W) {i : Nat} (hi : i < W.n) (he : (W.R i).id = id) : ixOf (idB W.R id) W.n = i := by
  rw [← he]; exact ix_of ok.2.2.2.1 hi
theorem down_any (W : Wd) (A B : Option Addr) (c d : Nat) (id : Int) (failed : Bool) (now : Int) (w : World) (ha : ArgOk W A B c d w) :
    Calls Try.prog 13 #[.agg #[.int .i64 W.how, .int .i64 W.most, .int .i64 W.window, .slice A W.n c, .slice B W.m d], .int .i64 id, .bool failed, .int .i64 now] w (DownAll W id failed now w) := by
  have toErr : ∀ (_ : ¬ ∃ i, DownOk W id now i) (e : Ending) (w' : World), DownErr w e w' → DownAll W id failed now w e w' := fun hn e w' h => .inl ⟨h, hn⟩
  by_cases ok : OkW W
  · rcases ixOf_cases (idB W.R id) W.n with ⟨e, hno⟩ | ⟨i, e, hi, hp, _⟩
    · refine (down_e2 W A B c d id failed now w ha ok e).mono (toErr ?_)
      rintro ⟨i, _, hi, he, _⟩
      have := hno i hi
      simp [idB, he] at this
    · have hid : (W.R i).id = id := by simpa [idB] using hp
      have huniq : ∀ j, DownOk W id now j → j = i := fun j hj => id_inj ok.2.2.2.1 hj.2.1 hi (hj.2.2.1.trans hid.symm)
      by_cases hl : (W.R i).lives = true
      · by_cases h0 : 0 ≤ now
        · by_cases h1 : now ≤ 1099511627776
          · by_cases hlt : 0 < W.m → W.T (W.m - 1) ≤ now
            · have hok : DownOk W id now i := ⟨ok, hi, hid, hl, h0, h1, hlt⟩
              have fin : ∀ (e : Ending) (w' : World), DownPost W i failed now w e w' → DownAll W id failed now w e w' := fun e w' h => .inr ⟨i, hok, h⟩
              by_cases hag : againB W i failed = true
              · by_cases hm : W.most ≤ (keptT W now).length
                · exact (down_gave W A B c d id failed now w ha ok i e hi hl h0 h1 hlt hag hm).mono fin
                · have hm' : ((keptT W now).length : Int) < W.most := by omega
                  have h3 := ok.1.1
                  have h4 := ok.1.2.1
                  have h5 : W.how = 1 ∨ W.how = 2 ∨ W.how = 3 := by omega
                  rcases h5 with h5 | h5 | h5
                  · exact (down_again1 W A B c d id failed now w ha ok i e hi hl h0 h1 hlt hag hm' h5).mono fin
                  · exact (down_again2 W A B c d id failed now w ha ok i e hi hl h0 h1 hlt hag hm' h5).mono fin
                  · exact (down_again3 W A B c d id failed now w ha ok i e hi hl h0 h1 hlt hag hm' h5).mono fin
              · have hag' : againB W i failed = false := by simpa using hag
                by_cases hm : 0 < W.m
                · exact (down_calm1 W A B c d id failed now w ha ok i e hi hl h0 h1 hm (hlt hm) hag').mono fin
                · exact (down_calm0 W A B c d id failed now w ha ok i e hi hl h0 h1 (by omega) hag').mono fin
            · have hlt' : 0 < W.m ∧ now < W.T (W.m - 1) := by
                by_cases hm : 0 < W.m
                · refine ⟨hm, ?_⟩
                  have : ¬ W.T (W.m - 1) ≤ now := fun h => hlt fun _ => h
                  omega
                · exact absurd (fun h => absurd h hm) hlt
              exact (down_e4c W A B c d id failed now w ha ok i e hi hl h0 h1 hlt').mono (toErr fun ⟨j, hj⟩ => hlt hj.2.2.2.2.2.2)
          · exact (down_e4b W A B c d id failed now w ha ok i e hi hl (by omega)).mono (toErr fun ⟨j, hj⟩ => h1 hj.2.2.2.2.2.1)
        · exact (down_e4a W A B c d id failed now w ha ok i e hi hl (by omega)).mono (toErr fun ⟨j, hj⟩ => h0 hj.2.2.2.2.1)
      · exact (down_e3 W A B c d id failed now w ha ok i e hi (by simpa using hl)).mono (toErr fun ⟨j, hj⟩ => by
          have := huniq j hj
          subst this
          exact hl hj.2.2.2.1)
  · exact (down_e1 W A B c d id failed now w ha ok).mono (toErr fun ⟨i, hi⟩ => ok hi.1)
/-- the supervisor of the closed fact -/
def W0 : Wd := ⟨1, 1, 5, fun _ => ⟨3, 1, true⟩, 1, fun _ => 0, 0⟩
theorem W0_ok : DownOk W0 3 2 0 := by
  refine ⟨⟨⟨by decide, by decide, by decide, by decide, by decide, by decide⟩, by decide, by decide, fun k hk => ⟨by show (1 : Int) ≤ 1; decide, by show (1 : Int) ≤ 3; decide, fun j hj => ?_⟩, fun k hk => ?_⟩, by decide, rfl, rfl, by decide, by decide, fun h => ?_⟩
  · simp [W0] at hk; omega
  · simp [W0] at hk
  · simp [W0] at h
theorem W0_arg {w : World} {b : Nat} (h0 : w.cell? ⟨b, 0, none⟩ = some (.int .i64 3)) (h1 : w.cell? ⟨b, 1, none⟩ = some (.int .i64 1)) (h2 : w.cell? ⟨b, 2, none⟩ = some (.bool true)) : ArgOk W0 (some ⟨b, 0, none⟩) none 1 0 w := by
  refine ⟨by decide, by omega, by decide, by omega, (fun h => by cases h), fun _ => rfl, fun _ => ⟨b, 0, rfl, lt_of_cell h0, fun k hk j u hu => ?_⟩, fun h => by simp [W0] at h⟩
  simp [W0] at hk
  subst hk
  match j, hu with
  | 0, hu => simp [chC, W0] at hu; subst hu; simpa using h0
  | 1, hu => simp [chC, W0] at hu; subst hu; simpa using h1
  | 2, hu => simp [chC, W0] at hu; subst hu; simpa using h2
theorem W0_down (w : World) (A : Option Addr) (ha : ArgOk W0 A none 1 0 w) : Calls Try.prog 13 #[.agg #[.int .i64 1, .int .i64 1, .int .i64 5, .slice A 1 1, .slice none 0 0], .int .i64 3, .bool false, .int .i64 2] w
    fun e w' => ∃ A c B m d D l h C f, e = .returned (.tuple #[.agg #[.int .i64 1, .int .i64 1, .int .i64 5, .slice A 1 c, .slice B m d], .agg #[.slice D l h, .slice C 1 f, .bool false], .int .i64 0]) ∧ OwnI w' w.heap.size (.slice C 1 f) [3] ∧ Below w.heap.size w w' := by
  refine (down_any W0 A none 1 0 3 false 2 w ha).mono ?_
  rintro e w' (⟨_, hn⟩ | ⟨i, hok, R', T', st, sp, gv, hr, A, c, B, d, vs, vt, rfl, _, _, hs, ht, hb⟩)
  · exact absurd ⟨0, W0_ok⟩ hn
  · obtain rfl : i = 0 := by have := hok.2.1; simp [W0] at this; exact this
    rcases hr with ⟨h, _⟩ | ⟨_, h, _⟩ | ⟨_, _, _, _, _, hst, hg⟩
    · exact absurd h (by decide)
    · exact absurd h (by decide)
    · subst hg
      have e : startIds W0.R (frOf W0 0) (toOf W0 0) = [3] := by decide
      rw [e] at hst
      subst hst
      obtain ⟨C, f, rfl, _⟩ := own_any ht
      obtain ⟨D, h, rfl, _⟩ := own_any hs
      exact ⟨A, c, B, _, d, D, _, h, C, f, rfl, ht, hb⟩
/-- a closure that compares a child's id with a captured one -/
def EqCl (fn : Nat) : Prop := ∀ (r : Ch) (id : Int) (b : Nat) (w : World), b < w.heap.size → w.cell? ⟨b, 0, none⟩ = some (.int .i64 id) →
  Calls Try.prog fn #[.agg #[.int .i64 r.id, .int .i64 r.when, .bool r.lives], .pointer (some ⟨b, 0, none⟩)] w fun e w' => e = .returned (.bool (r.id == id)) ∧ Below w.heap.size w w'
set_option maxHeartbeats 400000 in
theorem cl1 : EqCl 17 := by
  intro r id b w hb hc
  go_enter Try.func17, Try.ntmps17
  go_wp2_with fail
  go_ret
  exact ⟨rfl, (Below.refl _ _).alloc (Nat.le_refl _) _⟩
theorem cl1_enters : Enters Try.prog 17 := fun _ _ => by kernel_rfl

set_option maxHeartbeats 400000 in
theorem cl2 : EqCl 18 := by
  intro r id b w hb hc
  go_enter Try.func18, Try.ntmps18
  go_wp2_with fail
  go_ret
  exact ⟨rfl, (Below.refl _ _).alloc (Nat.le_refl _) _⟩
theorem cl2_enters : Enters Try.prog 18 := fun _ _ => by kernel_rfl

set_option maxHeartbeats 400000 in
theorem cl3 : EqCl 19 := by
  intro r id b w hb hc
  go_enter Try.func19, Try.ntmps19
  go_wp2_with fail
  go_ret
  exact ⟨rfl, (Below.refl _ _).alloc (Nat.le_refl _) _⟩
theorem cl3_enters : Enters Try.prog 19 := fun _ _ => by kernel_rfl

set_option maxHeartbeats 400000 in
theorem cl4 : EqCl 20 := by
  intro r id b w hb hc
  go_enter Try.func20, Try.ntmps20
  go_wp2_with fail
  go_ret
  exact ⟨rfl, (Below.refl _ _).alloc (Nat.le_refl _) _⟩
theorem cl4_enters : Enters Try.prog 20 := fun _ _ => by kernel_rfl

set_option maxHeartbeats 400000 in
theorem cl5 : EqCl 21 := by
  intro r id b w hb hc
  go_enter Try.func21, Try.ntmps21
  go_wp2_with fail
  go_ret
  exact ⟨rfl, (Below.refl _ _).alloc (Nat.le_refl _) _⟩
theorem cl5_enters : Enters Try.prog 21 := fun _ _ => by kernel_rfl

theorem ix_eq (fn : Nat) (hen : Enters Try.prog fn) (hf : EqCl fn) (A : Option Addr) (n c : Nat) (R : Nat → Ch) (id : Int) (b : Nat) (w : World) (hn : n ≤ 9223372036854775807) (hR : Rd w 3 (chC R) A n) (hb : b < w.heap.size) (hc : w.cell? ⟨b, 0, none⟩ = some (.int .i64 id)) :
    Calls Try.prog 16 #[.slice A n c, .func (.func fn) #[] #[.pointer (some ⟨b, 0, none⟩)]] w fun e w' => e = .returned (.int .i64 (ixOf (idB R id) n)) ∧ Below w.heap.size w w' :=
  ixC_rd A n c fn #[.pointer (some ⟨b, 0, none⟩)] _ _ _ (idB R id) w hn hR hen
    fun W hW k _ => (hf (R k) id b W (by have := hW.size; omega) ((hW.cell (p := ⟨_, _, none⟩) hb).trans hc)).mono fun e W' ⟨he, hb'⟩ => ⟨he, hW.trans (hb'.mono hW.size)⟩
set_option maxRecDepth 100000 in
/-- a supervisor that is an argument -/
theorem open_ward {H : Type} {enc : TypeId × Value → H} {W : World} {base : Nat} {v : Value} {d : DataW H} {p : List MemPlace} (k0 : Value.okWide Try.prog W .any base 25 v) (h0 : DataW.Trod enc Try.prog W 0 (fun _ => true) true 25 v d p) :
    ∃ (X : Wd) (A B : Option Addr) (c d : Nat), v = .agg #[.int .i64 X.how, .int .i64 X.most, .int .i64 X.window, .slice A X.n c, .slice B X.m d] ∧ ArgOk X A B c d W := by
  obtain ⟨⟨cs⟩, rfl, _⟩ := okWide_struct Try.underlying25 k0
  obtain ⟨fuel, hf⟩ := h0
  have hf' : DataW.trod enc Try.prog W 0 (fun _ => true) true fuel 25 cs = some (d, p) := hf
  obtain ⟨xs, n, _, _, hlen, _, _⟩ := DataW.trod_struct Try.underlying25 hf'
  have hl5 : cs.length = 5 := hlen.trans (by kernel_rfl)
  have hfl := trod_fields Try.underlying25 (by kernel_rfl) hf'
  match cs, hl5 with
  | [c0, c1, c2, c3, c4], _ =>
    obtain ⟨m0, y0, h0⟩ := hfl 0 _ c0 rfl rfl
    obtain ⟨m1, y1, h1⟩ := hfl 1 _ c1 rfl rfl
    obtain ⟨m2, y2, h2⟩ := hfl 2 _ c2 rfl rfl
    obtain ⟨m3, y3, h3⟩ := hfl 3 _ c3 rfl rfl
    obtain ⟨m4, y4, h4⟩ := hfl 4 _ c4 rfl rfl
    obtain ⟨z0, e0, _, _⟩ := DataW.trod_int Try.underlying3 h0
    obtain ⟨z1, e1, _, _⟩ := DataW.trod_int Try.underlying3 h1
    obtain ⟨z2, e2, _, _⟩ := DataW.trod_int Try.underlying3 h2
    obtain ⟨A, n, c, C, e3, hnc, hcm, hA, hR, hlenC, hel⟩ := open_rows Try.underlying22 (sz := 3) (by kernel_rfl) (by omega) h3
    obtain ⟨B, m, d, D, e4, hmd, hdm, hB, hT, hlenD, helD⟩ := open_rows Try.underlying23 (sz := 1) (by kernel_rfl) (by omega) h4
    simp at e0 e1 e2 e3 e4
    subst e0 e1 e2 e3 e4
    have hall : ∀ i, ∃ q : Ch, i < n → C i = chC (fun _ => q) i := fun i => by
      by_cases hi : i < n
      · obtain ⟨m, y, hy⟩ := hel i hi
        have hg := trod_fields Try.underlying34 (by kernel_rfl) hy
        match hC : C i, hlenC i with
        | [u0, u1, u2], _ =>
          rw [hC] at hg
          obtain ⟨_, _, g0⟩ := hg 0 _ u0 rfl rfl
          obtain ⟨_, _, g1⟩ := hg 1 _ u1 rfl rfl
          obtain ⟨_, _, g2⟩ := hg 2 _ u2 rfl rfl
          obtain ⟨z0, e0, _, _⟩ := DataW.trod_int Try.underlying3 g0
          obtain ⟨z1, e1, _, _⟩ := DataW.trod_int Try.underlying3 g1
          obtain ⟨z2, e2, _, _⟩ := DataW.trod_bool Try.underlying4 g2
          simp at e0 e1 e2
          exact ⟨⟨z0, z1, z2⟩, fun _ => by rw [e0, e1, e2]; rfl⟩
      · exact ⟨⟨0, 0, false⟩, fun h => absurd h hi⟩
    obtain ⟨Q, hQ⟩ := Classical.axiomOfChoice hall
    have hallT : ∀ i, ∃ q : Int, i < m → D i = [.int .i64 q] := fun i => by
      by_cases hi : i < m
      · obtain ⟨m, y, hy⟩ := helD i hi
        obtain ⟨z0, e0, _, _⟩ := DataW.trod_int Try.underlying3 hy
        exact ⟨z0, fun _ => e0⟩
      · exact ⟨0, fun h => absurd h hi⟩
    obtain ⟨U, hU⟩ := Classical.axiomOfChoice hallT
    exact ⟨⟨z0, z1, z2, Q, n, U, m⟩, A, B, c, d, rfl, ⟨hnc, hcm, hmd, hdm, hA, hB, hR.congr fun k hk => hQ k hk, hT.congr fun k hk => hU k hk⟩⟩
/-- what is stopped, and started: places in order -/
theorem res_lists {W : Wd} {i : Nat} {failed : Bool} {now : Int} {R' : Nat → Ch} {T' st sp : List Int} {g : Bool} (h : DownRes W i failed now R' T' sp st g) (hi : i < W.n) :
    ∃ ks us : List Nat, sp = idsOf W.R ks ∧ st = idsOf W.R us ∧ ks.Pairwise (· > ·) ∧ us.Pairwise (· < ·) ∧ (∀ k ∈ ks, k < W.n) ∧ ∀ k ∈ us, k < W.n := by
  have hoff : ∀ a b l, idsOf (offR W.R a b) l = idsOf W.R l := fun a b l => by
    unfold idsOf
    apply List.map_congr_left
    intro k _
    unfold offR
    split <;> rfl
  have hto : toOf W i ≤ W.n := by unfold toOf; split <;> omega
  rcases h with ⟨_, _, _, h1, h2, _⟩ | ⟨_, _, _, _, h1, h2, _⟩ | ⟨_, _, _, _, h1, h2, _⟩
  · exact ⟨[], [], h1, h2, .nil, .nil, by simp, by simp⟩
  · refine ⟨_, [], h1.trans (hoff _ _ _), h2, ?_, .nil, fun k hk => ?_, by simp⟩
    · rw [List.pairwise_reverse]; exact ksUp_sorted _ _ _
    · rw [List.mem_reverse, mem_ksUp] at hk; omega
  · refine ⟨_, _, h1.trans (hoff _ _ _), h2, ?_, ksUp_sorted _ _ _, fun k hk => ?_, fun k hk => ?_⟩
    · rw [List.pairwise_reverse]; exact ksUp_sorted _ _ _
    · rw [List.mem_reverse, mem_ksUp] at hk; omega
    · rw [mem_ksUp] at hk; omega
set_option maxRecDepth 100000 in
set_option maxHeartbeats 1000000 in
theorem wards_any (w : World) : Calls Try.prog 14 #[] w fun e w' => e = .returned (.bool true) ∧ Below w.heap.size w w' := by
  go_enter Try.func14, Try.ntmps14
  go_wp2_with fail
  refine (W0_down _ _ (W0_arg (by simp [go_sem]) (by simp [go_sem]) (by simp [go_sem]))).mono ?_
  rintro e w1 ⟨A, c, B, m, d, D, l, h, C, f, rfl, hst, hb⟩
  have hb1 : Below w.heap.size w w1 := (((Below.refl _ _).alloc (Nat.le_refl _) _).alloc (by simp) _).trans (hb.mono (by simp; omega))
  have hz1 := hb1.size
  have HB1 := Lib.hid hb1
  have HR := Lib.hid hst.rd
  clear hb hst hb1
  go_wp2_with fail
  refine (equalI_any _ _ 1 _ 1 _ (lst [3]) (fun _ => 3) _ (by omega) (by omega) (((HR.out.alloc _).alloc _).alloc _) (fun _ => ⟨_, 0, rfl, by simp, fun k hk j u hu => ?_⟩)).mono ?_
  · obtain rfl : k = 0 := by omega
    match j, hu with
    | 0, hu => simp [tmC] at hu; subst hu; simp [go_sem]
  · rintro e w2 ⟨rfl, q, rfl⟩
    rw [show (decide (1 = 1) && !anyOf (fun k => lst [3] k != 3) 1) = true from by decide]
    go_wp2_with fail
    go_ret
    exact ⟨rfl, below_drewN (((HB1.out.alloc hz1 _).alloc (by simp; omega) _).alloc (by simp; omega) _) _⟩
end Go.Proofs.Ytcjkibjaajbfmaa
