/- The contract of steal.Run. -/
import Derived.Test.YtjcegplockihfaaStealPerm
namespace Go.Proofs.Ytjcegplockihfaa
open Go.RowKit
set_option linter.unusedVariables false
theorem infoP : (Try.prog.info? 35).map (fun i => (i.zero, i.size, i.bytes)) = some (some (.agg #[.int .i64 0, .int .i64 0]), 2, 16) := by kernel_rfl
def encP (D : List (Int × Int)) : List Value := D.flatMap fun p => [.int .i64 p.1, .int .i64 p.2]
theorem encP_snoc (D : List (Int × Int)) (a b : Int) : encP (D ++ [(a, b)]) = encP D ++ [.int .i64 a, .int .i64 b] := by simp [encP]
theorem encP_get : ∀ {D : List (Int × Int)} {k : Nat} {p : Int × Int}, D[k]? = some p → (encP D)[k * 2]? = some (.int .i64 p.1) ∧ (encP D)[k * 2 + 1]? = some (.int .i64 p.2)
  | [], k, p, h => by simp at h
  | q :: D, 0, p, h => by simp at h; subst h; simp [encP]
  | q :: D, k + 1, p, h => by
    simp at h
    have ih := encP_get h
    have e : encP (q :: D) = [.int .i64 q.1, .int .i64 q.2] ++ encP D := by simp [encP]
    rw [e]
    rw [show (k + 1) * 2 = k * 2 + 2 by omega]
    simpa using ih
theorem cell_two_new (w : World) (a b : Value) (t : TypeId) : ∀ j u, [a, b][j]? = some u → (w.alloc (.cells #[a, b] t)).cell? ((⟨w.heap.size, 0, none⟩ : Addr).add j) = some u := by
  intro j u hj
  rw [Go.WideShapes.add_plain, Nat.zero_add]
  match j, hj with
  | 0, hj => simp at hj; subst hj; simp [go_sem]
  | 1, hj => simp at hj; subst hj; simp [go_sem]
theorem one_two (a b : Int) : ∀ u ∈ ([.int .i64 a, .int .i64 b] : List Value), u.oneCell' = true := by intro u hu; simp at hu; rcases hu with rfl | rfl <;> rfl
/-- the pairs and the lines lie apart -/
def ApartP (n : Nat) (vo v : Value) (vs : Nat → Value) : Prop := ∀ k, vo.ownBlock = some k → v.ownBlock ≠ some k ∧ ∀ i, i < n → (vs i).ownBlock ≠ some k
def RunErr (w : World) (e : Ending) (w' : World) : Prop := ∃ x : Int, x ≠ 0 ∧ e = .returned (.tuple #[.slice none 0 0, .slice none 0 0, .int .i64 x]) ∧ Below w.heap.size w w'
def RunPost (Q : Nat → List Int) (n : Nat) (w : World) (e : Ending) (w' : World) : Prop :=
  ∃ Ao co A c vs Q' D, e = .returned (.tuple #[.slice Ao (List.length D) co, .slice A n c, .int .i64 0]) ∧ OwnLs w' w.heap.size (.slice A n c) vs n Q' ∧ w'.ownsRow w.heap.size 35 2 (.slice Ao D.length co) D.length (encP D) ∧
    (D.map Prod.snd ++ catTo Q' n).Perm (catTo Q n) ∧ Below w.heap.size w w'
set_option maxRecDepth 100000 in
set_option maxHeartbeats 2000000 in
theorem run_bad (A : Option Addr) (n c : Nat) (Q : Nat → List Int) (S : Nat → Prop) (B : Option Addr) (m d : Nat) (w : World) (hn : n ≤ c) (hc : c ≤ 9223372036854775807) (hR : RdLs w S A n Q) (hwf : WfQ Q n) (ok : ¬ (OkLs Q n ∧ m ≤ 100)) :
    Calls Try.prog 43 #[.slice A n c, .slice B m d] w (RunErr w) := by
  have H := Lib.hid (checkS_any A n c Q S w hn hc hR hwf)
  clear hR hwf
  by_cases hk : OkLs Q n
  · have e1 : decide ((100 : Int) < (m : Int)) = true := by have := Nat.lt_of_not_le fun h => ok ⟨hk, h⟩; simp; omega
    have HK := Lib.hid hk
    clear hk ok
    go_enter Try.func43, Try.ntmps43
    go_wp2_with fail
    refine H.out.mono ?_
    rintro e w1 ⟨x, rfl, hx, hb⟩
    obtain rfl : x = 0 := hx.2 HK.out
    clear hx
    go_wp2_with fail
    go_ret3
    exact ⟨2, by omega, rfl, hb⟩
  · have HK := Lib.hid hk
    clear hk ok
    go_enter Try.func43, Try.ntmps43
    go_wp2_with fail
    refine H.out.mono ?_
    rintro e w1 ⟨x, rfl, hx, hb⟩
    have hx' : x ≠ 0 := fun h => HK.out (hx.1 h)
    have hx0 : (x != 0) = true := by simpa using hx'
    clear hx
    go_wp2_with fail
    go_ret3
    exact ⟨x, hx', rfl, hb⟩
theorem OwnLs.lt {w : World} {base : Nat} {v : Value} {vs : Nat → Value} {n : Nat} {Q : Nat → List Int} (h : OwnLs w base v vs n Q) : (∀ k, v.ownBlock = some k → base ≤ k ∧ k < w.heap.size) ∧ ∀ i, i < n → ∀ k, (vs i).ownBlock = some k → base ≤ k ∧ k < w.heap.size :=
  ⟨h.row.lt, fun i hi => (h.each i hi).blk⟩
set_option maxRecDepth 100000 in
set_option maxHeartbeats 4000000 in
theorem run_ok (A : Option Addr) (n c : Nat) (Q : Nat → List Int) (S : Nat → Prop) (B : Option Addr) (m d : Nat) (T : Nat → Int) (w : World) (hn : n ≤ c) (hc : c ≤ 9223372036854775807) (hR : RdLs w S A n Q) (hwf : WfQ Q n) (hT : Rd w 1 (tmC T) B m) (ok : OkLs Q n) (hm : m ≤ 100) :
    Calls Try.prog 43 #[.slice A n c, .slice B m d] w (RunPost Q n w) := by
  obtain ⟨i0, hi, hz0, hz1, hz2⟩ := info_parts infoP
  have H := Lib.hid (checkS_any A n c Q S w hn hc hR hwf)
  have HR := Lib.hid hR
  have HWF := Lib.hid hwf
  have HK := Lib.hid ok
  have HT := Lib.hid hT
  have h8 := ok.2.1
  have e1 : decide ((100 : Int) < (m : Int)) = false := by simp; omega
  clear hR hwf ok hT
  go_enter Try.func43, Try.ntmps43
  go_wp2_with fail
  refine H.out.mono ?_
  rintro e w1 ⟨x, rfl, hx, hb⟩
  obtain rfl : x = 0 := hx.2 HK.out
  have HB1 := Lib.hid hb
  clear hx hb
  go_wp2_with fail
  refine (copyS_any A n c Q S _ hn hc (by omega) (HR.out.below HB1.out) (fun j hj => (HWF.out j hj).1)).mono ?_
  rintro e w3 ⟨v, vs, rfl, hO, hb3⟩
  have HB3 := Lib.hid (HB1.out.trans (hb3.mono HB1.out.size))
  have HO3 := Lib.hid (hO.mono HB1.out.size)
  obtain ⟨A3, c3, rfl, _, _, _⟩ := own_any hO.row
  clear hO hb3
  go_wp2_with fail
  go_loopw [0, 8, 10, 11, 12, 13, 26] (fun l o _ _ _ _ x wr => ∃ (k : Nat) (A' : Option Addr) (c' : Nat) (vs : Nat → Value) (Q' : Nat → List Int) (vo : Value) (D : List (Int × Int)), k ≤ m ∧ x = .int .i64 k ∧ .slice A' n c' = l ∧ vo = o ∧ D.length ≤ k ∧
    OwnLs wr w.heap.size (.slice A' n c') vs n Q' ∧ wr.ownsRow w.heap.size 35 2 vo D.length (encP D) ∧ ApartP n vo (.slice A' n c') vs ∧ (D.map Prod.snd ++ catTo Q' n).Perm (catTo Q n) ∧ Below w.heap.size w wr) (fun _ _ _ _ _ _ x _ => m - (intOf x).toNat)
  case atStart => exact ⟨0, A3, c3, vs, Q, .slice none 0 0, [], Nat.zero_le _, rfl, rfl, rfl, Nat.zero_le _, HO3.out, World.ownsRow_nil _ _ _ _, (fun k hk => by cases hk), List.Perm.refl _, HB3.out⟩
  case round =>
    obtain ⟨k, A', c', vs, Q', vo, D, hk, rfl, rfl, rfl, hDk, hO, hP, hAp, hPm, hB⟩ := hrel
    have HO := Lib.hid hO
    have HP := Lib.hid hP
    have HAP := Lib.hid hAp
    have HPM := Lib.hid hPm
    have HB := Lib.hid hB
    have hBs := hB.size
    obtain ⟨Ao, co, rfl, hnco, hcmo, _⟩ := own_any hP
    obtain ⟨_, _, hve, hnc', hcm', _⟩ := own_any hO.row
    injection hve with hve1 _ hve
    subst hve1 hve
    by_cases hlt : k < m
    · obtain ⟨b, off, rfl, hb, hcell⟩ := HT.out (by omega)
      have c0 : wr.cell? ⟨b, off + k, none⟩ = some (.int .i64 (T k)) := by
        have := hcell k hlt 0 _ rfl
        exact (hB.cell (p := ⟨b, off + k, none⟩) hb).trans (by simpa using this)
      obtain ⟨hok', hwf'⟩ := ok_of_perm HK.out HWF.out hPm
      have HOK := Lib.hid hok'
      have HWQ := Lib.hid hwf'
      clear hO hP hAp hPm hB hcell hok' hwf'
      go_wp2_with fail
      refine (pop_any A' n c' Q' _ (T k) _ hnc' hcm' HO.out.rd HWQ.out HOK.out).mono ?_
      rintro e w4 (⟨x, hx, rfl, hb4⟩ | ⟨A4, c4, vs4, t, Q4, rfl, hO4, hp4, hb4⟩)
      · have hx0 : (x == 0) = false := by simpa using hx
        have HB4 := Lib.hid hb4
        clear hb4 hx c0
        go_wp2_with fail
        exact ⟨⟨k + 1, A', c', vs, Q', _, D, by omega, by go_num, rfl, rfl, by omega, HO.out.below HB4.out, own_keep HP.out HB4.out, HAP.out, HPM.out, HB.out.trans (HB4.out.mono hBs)⟩, by simp [intOf]; omega⟩
      · have HB4 := Lib.hid hb4
        have hz4 := hb4.size
        have HO4 := Lib.hid hO4
        have HP4 := Lib.hid hp4
        have HR4 := Lib.hid (own_keep HP.out hb4)
        clear hb4 hO4 hp4 c0
        go_wp2_with (at_builtin; go_loud (refine wpList_append_own_at _ rfl _ _ 74 rfl w.heap.size 35 i0 _ 2 16 Try.underlying74 hi hz0 hz1 hz2 rfl (by omega) (.slice Ao D.length co) D.length (encP D) rfl (HR4.out.alloc _) ⟨w4.heap.size, 0, none⟩ 1 1 [.int .i64 (T k), .int .i64 t] rfl rfl (cell_two_new _ _ _ _) (one_two _ _) (by unfold maxLen; omega) (by omega) (by simp; omega) ?_; intro v5 w5 hown5 hgrow5 _ hat5; have HO5 := Lib.hid hown5; have HG5 := Lib.hid hgrow5; have HA5 := Lib.hid hat5; clear hown5 hgrow5 hat5))
        have hv5 : ∀ j, v5.ownBlock = some j → (Value.slice Ao D.length co).ownBlock = some j ∨ j = w4.heap.size + 1 := fun j hj => by
          rcases HA5.out with h | h
          · exact .inl (by rw [← h]; exact hj)
          · right; rw [h] at hj; injection hj with hj; simpa using hj.symm
        have g5 : w4.grownBy w5 (Value.slice Ao D.length co).ownBlock := grown_step (World.grownBy_alloc w4 _ _) HG5.out (.inl rfl)
        have hold : ∀ j, (Value.slice Ao D.length co).ownBlock = some j → w.heap.size ≤ j ∧ j < wr.heap.size := HP.out.lt
        have hL4 := HO4.out.lt
        refine ⟨⟨k + 1, A4, c4, vs4, Q4, v5, D ++ [(T k, t)], by omega, by go_num, rfl, rfl, by rw [List.length_append]; simp; omega, ?_, ?_, ?_, ?_, ?_⟩, by simp [intOf]; omega⟩
        · refine (HO4.out.grown g5 (fun j hj e => ?_) (fun i hi j hj e => ?_)).mono hBs
          · have := (hL4.1 j hj).1; have := (hold j e).2; omega
          · have := (hL4.2 i hi j hj).1; have := (hold j e).2; omega
        · rw [List.length_append, encP_snoc]
          exact HO5.out
        · intro j hj
          rcases hv5 j hj with h | h
          · have h1 := (hold j h).2
            exact ⟨fun e => by have := (hL4.1 j e).1; omega, fun i hi e => by have := (hL4.2 i hi j e).1; omega⟩
          · exact ⟨fun e => by have := (hL4.1 j e).2; omega, fun i hi e => by have := (hL4.2 i hi j e).2; omega⟩
        · rw [List.map_append, List.append_assoc]
          refine (List.Perm.append_left _ ?_).trans HPM.out
          simpa using HP4.out
        · exact below_grown ((HB.out.trans (HB4.out.mono hBs)).alloc (by omega) _) (by simp; omega) HG5.out (fun j hj => (hold j hj).1)
    · obtain rfl : m = k := by omega
      clear hO hP hAp hPm hB
      go_wp2_with fail
      go_ret3
      exact ⟨Ao, co, A', c', vs, Q', D, rfl, HO.out, HP.out, HPM.out, HB.out⟩
end Go.Proofs.Ytjcegplockihfaa
