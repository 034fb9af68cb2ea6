/- The walk of the law TurnWaits. -/
import Derived.Test.YtjcegplockihfaaTurnRound
import Derived.Test.YtjcegplockihfaaCompact
import Derived.Test.YtjcegplockihfaaStealOpen
import Derived.IntWalk
import Derived.SizedLaws
import Derived.Deep.RegionHeld3
import Derived.Deep.AppendLies
namespace Go.Proofs.Ytjcegplockihfaa
open Go.RowKit Go.ChangeShapes Go.WideShapes
set_option linter.unusedVariables false
theorem flatC_lstL {l : List Int} {n : Nat} (h : l.length = n) : flatC (tmC (lst l)) n = encI l := by subst h; exact flatC_lst l
theorem encI_snoc (a : List Int) (x : Int) : encI (a ++ [x]) = encI a ++ [.int .i64 x] := by simp [encI]
theorem one_int (x : Int) : ∀ u ∈ ([.int .i64 x] : List Value), u.oneCell' = true := by intro u hu; simp at hu; subst hu; rfl
theorem lst_mem {L : List Int} {k : Nat} (h : k < L.length) : lst L k ∈ L := by simp [lst, h]
theorem mem_lst {L : List Int} {x : Int} (h : x ∈ L) : ∃ k, k < L.length ∧ lst L k = x := by
  obtain ⟨k, hk, e⟩ := List.mem_iff_getElem.1 h
  exact ⟨k, hk, by simp [lst, hk, e]⟩
theorem lst_lt {L : List Int} (h : L.Pairwise (· < ·)) {i j : Nat} (hij : i < j) (hj : j < L.length) : lst L i < lst L j := by
  have := List.pairwise_iff_getElem.1 h i j (by omega) hj hij
  simpa [lst, hj, show i < L.length by omega] using this
theorem okR_sorted {L : List Int} (h : L.Pairwise (· < ·)) (hl : L.length ≤ 100) : OkR (lst L) L.length := ⟨hl, fun k hk => lst_lt h (by omega) hk⟩
theorem aft_lst {L : List Int} (h : L.Pairwise (· < ·)) (h0 : 0 < L.length) (last : Int) : aftOf (lst L) L.length last ∈ L ∧
    ((last < aftOf (lst L) L.length last ∧ ∀ x ∈ L, last < x → aftOf (lst L) L.length last ≤ x) ∨ ((∀ x ∈ L, x ≤ last) ∧ ∀ x ∈ L, aftOf (lst L) L.length last ≤ x)) := by
  unfold aftOf
  rcases ixOf_cases (fun k => decide (last < lst L k)) L.length with ⟨e, hn⟩ | ⟨k, e, hk, hp, hlow⟩
  · rw [e, if_neg (by omega)]
    refine ⟨lst_mem h0, .inr ⟨fun x hx => ?_, fun x hx => ?_⟩⟩
    · obtain ⟨j, hj, rfl⟩ := mem_lst hx
      simpa using hn j hj
    · obtain ⟨j, hj, rfl⟩ := mem_lst hx
      by_cases e : j = 0
      · rw [e]; exact Int.le_refl _
      · have := lst_lt h (show 0 < j by omega) hj; omega
  · rw [e, if_pos (by omega)]
    simp only [Int.toNat_natCast]
    refine ⟨lst_mem hk, .inl ⟨by simpa using hp, fun x hx hlx => ?_⟩⟩
    obtain ⟨j, hj, rfl⟩ := mem_lst hx
    by_cases hjk : j < k
    · have := hlow j hjk
      simp at this
      omega
    · by_cases e : j = k
      · rw [e]; exact Int.le_refl _
      · have := lst_lt h (show k < j by omega) hj; omega
/-- what has been told up till now lies between the first last and who, round the ring -/
def WInv (who last : Int) (seen : List Int) : Prop := (who ≤ last ∧ ∀ s ∈ seen, who < s ∧ s ≤ last) ∨ (last < who ∧ ∀ s ∈ seen, who < s ∨ s ≤ last)
theorem WInv.start (who last : Int) : WInv who last [] := by
  by_cases h : who ≤ last
  · exact .inl ⟨h, by simp⟩
  · exact .inr ⟨by omega, by simp⟩
theorem WInv.step {who last : Int} {seen L : List Int} (hI : WInv who last seen) (h : L.Pairwise (· < ·)) (hw : who ∈ L) (hne : aftOf (lst L) L.length last ≠ who) :
    aftOf (lst L) L.length last ∉ seen ∧ WInv who (aftOf (lst L) L.length last) (seen ++ [aftOf (lst L) L.length last]) := by
  have h0 : 0 < L.length := List.length_pos_of_mem hw
  obtain ⟨hm, hc⟩ := aft_lst h h0 last
  generalize aftOf (lst L) L.length last = nn at *
  rcases hI with ⟨h1, h2⟩ | ⟨h1, h2⟩
  · rcases hc with ⟨c1, c2⟩ | ⟨c1, c2⟩
    · refine ⟨fun hs => by have := h2 nn hs; omega, .inl ⟨by omega, fun s hs => ?_⟩⟩
      rcases List.mem_append.1 hs with hs | hs
      · have := h2 s hs; omega
      · simp at hs; omega
    · have hle := c2 who hw
      refine ⟨fun hs => by have := h2 nn hs; omega, .inr ⟨by omega, fun s hs => ?_⟩⟩
      rcases List.mem_append.1 hs with hs | hs
      · have := h2 s hs; omega
      · simp at hs; omega
  · rcases hc with ⟨c1, c2⟩ | ⟨c1, c2⟩
    · have hle := c2 who hw h1
      refine ⟨fun hs => by have := h2 nn hs; omega, .inr ⟨by omega, fun s hs => ?_⟩⟩
      rcases List.mem_append.1 hs with hs | hs
      · have := h2 s hs; omega
      · simp at hs; omega
    · have := c1 who hw; omega
def readyOf (who : Int) (l : List Int) : List Int := Lib.compact (srt (l.take 20 ++ [who]))
theorem ready_sorted (who : Int) (l : List Int) : (readyOf who l).Pairwise (· < ·) := compact_sorted (srt_pairwise _)
theorem ready_who (who : Int) (l : List Int) : who ∈ readyOf who l := compact_mem (srt_pairwise _) ((srt_perm _).mem_iff.2 (by simp))
theorem ready_len (who : Int) (l : List Int) : (readyOf who l).length ≤ 21 := by
  have h := compact_len (srt (l.take 20 ++ [who]))
  rw [srt_len, List.length_append, List.length_take] at h
  simp at h
  unfold readyOf
  omega
set_option maxRecDepth 100000 in
set_option maxHeartbeats 4000000 in
theorem turnWaits_go (who last : Int) (A : Option Addr) (n c : Nat) (Q : Nat → List Int) (S : Nat → Prop) (w : World) (hn : n ≤ c) (hc : c ≤ 9223372036854775807) (hn13 : n ≤ 10000000000000) (hR : RdLs w S A n Q) :
    Calls Try.prog 10 #[.int .i64 who, .int .i64 last, .slice A n c] w fun e w' => e = .returned (.bool true) ∧ Below w.heap.size w w' := by
  have HR := Lib.hid hR
  clear hR
  obtain ⟨i0, jinf, hz0, hz1, hz2'⟩ := info_parts infoI
  go_enter Try.func10, Try.ntmps10
  go_wp2_with fail
  refine (turns_any _).mono ?_
  rintro e w1 ⟨rfl, hb1⟩
  have HB1 := Lib.hid hb1
  clear hb1
  go_wp2_with fail
  go_loopw [1, 7, 9, 10, 11, 12, 17] (fun l o _ _ _ _ x wr => ∃ (i : Nat) (la : Int) (v : Value) (seen : List Int), i ≤ n ∧ x = .int .i64 i ∧ .int .i64 la = l ∧ v = o ∧ seen.length ≤ i ∧ OwnI wr w.heap.size v seen ∧ WInv who la seen ∧ Below w.heap.size w wr) (fun _ _ _ _ _ _ x _ => n - (intOf x).toNat)
  case atStart => exact ⟨0, last, _, [], Nat.zero_le _, rfl, rfl, rfl, Nat.zero_le _, OwnI.nil _ _, WInv.start _ _, HB1.out⟩
  case round =>
    obtain ⟨i, la, v, seen, hi, rfl, rfl, rfl, hsl, hO, hI, hB⟩ := hrel
    have HB := Lib.hid hB
    have hBs := hB.size
    have HI := Lib.hid hI
    obtain ⟨Aa, ca, rfl, hnca, hcma, _⟩ := own_any hO
    have HO := Lib.hid hO
    clear hO hI hB
    by_cases hlt : i < n
    · obtain ⟨b, off, rfl, hb, hSb, hcell⟩ := HR.out (by omega)
      obtain ⟨qA, qc, h1, h2, h3, h4, h5⟩ := hcell i hlt
      have c0 : wr.cell? ⟨b, off + i, none⟩ = some (.slice qA (Q i).length qc) := (HB.out.cell (p := ⟨b, _, none⟩) hb).trans h1
      have HQ := Lib.hid (h5.below HB.out).rd
      have H4 := Lib.hid h4
      clear hcell h1 h5 h4
      obtain ⟨L, hL⟩ : ∃ L, L = (Q i).take 20 := ⟨_, rfl⟩
      obtain ⟨m, hm⟩ : ∃ m, m = min (Q i).length 20 := ⟨_, rfl⟩
      have hmin : (min ((Q i).length : Int) 20).toNat = m := by omega
      have hLm : L.length = m := by rw [hL, List.length_take]; omega
      have HQ2 := Lib.hid (show Rd wr 1 (tmC (lst L)) qA m from (HQ.out.take (by omega)).congr fun k hk => by unfold tmC lst; rw [hL]; simp [show k < 20 by omega])
      have H42 := Lib.hid (show qA = none → m = 0 from fun h => by have := H4.out h; omega)
      have hm20 : m ≤ 20 := by omega
      have HL := Lib.hid hL
      have HLM := Lib.hid hLm
      have HMIN := Lib.hid hmin
      clear hL hm hLm hmin
      go_wp2_with fail
      rw [HMIN.out]
      refine (cloneInt qA m qc (tmC (lst L)) _ HQ2.out (tmC_len _) (tmC_one _) H42.out (by omega)).mono ?_
      rintro e w2 ⟨v2, rfl, hown2, hb2⟩
      rw [flatC_lstL HLM.out] at hown2
      obtain ⟨A2, c2, rfl, _, _, _⟩ := own_any hown2
      have HO2 := Lib.hid (show OwnI w2 wr.heap.size (.slice A2 m c2) L by unfold OwnI; rw [HLM.out]; exact hown2)
      have HB2 := Lib.hid hb2
      have hz2 := hb2.size
      clear hown2 hb2 c0
      go_wp2_with (at_builtin; go_loud (refine wpList_append_int (w := w2) rfl _ _ rfl wr.heap.size (.slice A2 m c2) L rfl HO2.out w2.heap.size rfl who rfl (by rw [HLM.out]; omega) hz2 ?_; intro v3 w3 hown3 hgrow3 _; have HO3 := Lib.hid hown3; have HG3 := Lib.hid hgrow3; clear hown3 hgrow3))
      have HB3 := Lib.hid (below_grown HB2.out hz2 HG3.out (fun j hj => (HO2.out.blk j hj).1))
      have hz3 := HB3.out.size
      obtain ⟨L3, hL3⟩ : ∃ L3, L3 = L ++ [who] := ⟨_, rfl⟩
      rw [← hL3] at HO3
      have hL3l : L3.length = m + 1 := by rw [hL3, List.length_append, HLM.out]; rfl
      have HRO := Lib.hid (show readyOf who (Q i) = Lib.compact (srt L3) by unfold readyOf; rw [hL3, HL.out])
      have HL3 := Lib.hid hL3l
      obtain ⟨A3, c3, rfl, _, _, _⟩ := own_any HO3.out
      clear hL3 hL3l HG3
      go_wp2_with fail
      refine (sortI_own wr.heap.size _ _ _ HO3.out (by rw [HL3.out]; omega)).mono ?_
      rintro e w4 ⟨rfl, hown4, hg4⟩
      have HB4 := Lib.hid (below_grown HB3.out hz3 hg4 (fun j hj => (HO3.out.blk j hj).1))
      have hz4 := HB4.out.size
      have HO4 := Lib.hid hown4
      clear hown4 hg4
      go_wp2_with fail
      refine (compactI_own wr.heap.size _ _ _ HO4.out (by rw [srt_len, HL3.out]; omega) (by rw [srt_len, HL3.out]; omega)).mono ?_
      rintro e w5 ⟨v5, rfl, hown5, hg5⟩
      rw [← HRO.out] at hown5
      have HB5 := Lib.hid (below_grown HB4.out hz4 hg5 (fun j hj => (HO4.out.blk j hj).1))
      have hz5 := HB5.out.size
      obtain ⟨A5, c5, rfl, hnc5, hcm5, _⟩ := own_any hown5
      have HR5 := Lib.hid hown5.rd
      have HRS := Lib.hid (ready_sorted who (Q i))
      have HRW := Lib.hid (ready_who who (Q i))
      have hrl := ready_len who (Q i)
      have HPOS := Lib.hid (List.length_pos_of_mem HRW.out)
      clear hown5 hg5
      generalize readyOf who (Q i) = R at *
      go_wp2_with fail
      refine (next_any A5 _ c5 (lst R) la _ hnc5 hcm5 HR5.out).mono ?_
      rintro e w6 ⟨h6 | h6, q6, rfl⟩
      rotate_left
      · exact absurd ⟨okR_sorted HRS.out (by omega), HPOS.out⟩ h6.1
      obtain ⟨_, _, rfl⟩ := h6
      obtain ⟨nn, hnn⟩ : ∃ nn, nn = aftOf (lst R) R.length la := ⟨_, rfl⟩
      rw [← hnn]
      have HB6 := Lib.hid (show Below wr.heap.size wr (w5.drewN q6) from below_drewN HB5.out _)
      have HR6 := Lib.hid (show Rd (w5.drewN q6) 1 (tmC (lst R)) A5 R.length from HR5.out.below (below_drewN0 w5 q6))
      have HNM := Lib.hid (show nn ∈ R by rw [hnn]; exact (aft_lst HRS.out HPOS.out la).1)
      have HST := Lib.hid (show nn ≠ who → nn ∉ seen ∧ WInv who nn (seen ++ [nn]) by rw [hnn]; exact HI.out.step HRS.out HRW.out)
      clear hnn
      generalize w5.drewN q6 = w6 at *
      have hz6 := HB6.out.size
      have HO6 := Lib.hid (HO.out.below HB6.out)
      go_wp2_with fail
      refine (containsI_any A5 _ c5 (lst R) nn _ (by omega) HR6.out).mono ?_
      rintro e w7 ⟨rfl, rfl⟩
      rw [any_lst, show decide (nn ∈ R) = true by simpa using HNM.out]
      by_cases hq : nn = who
      · subst hq
        go_wp2_with fail
        go_ret
        exact ⟨rfl, HB.out.trans (HB6.out.mono hBs)⟩
      · have hq0 : (nn == who) = false := by simpa using hq
        obtain ⟨hns, hI2⟩ := HST.out hq
        have HI2 := Lib.hid hI2
        have HNS := Lib.hid hns
        have HRD := Lib.hid HO6.out.rd
        clear hq hns hI2
        go_wp2_with fail
        refine (containsI_any Aa _ ca (lst seen) nn _ (by omega) HRD.out).mono ?_
        rintro e w7 ⟨rfl, rfl⟩
        rw [any_lst, show decide (nn ∈ seen) = false by simpa using HNS.out]
        go_wp2_with (at_builtin; go_loud (refine wpList_append_own_at _ rfl _ _ 52 rfl w.heap.size 3 i0 _ 1 8 Try.underlying52 jinf hz0 hz1 hz2' rfl (by omega) (.slice Aa seen.length ca) seen.length (encI seen) rfl (HO6.out.alloc _) ⟨w6.heap.size, 0, none⟩ 1 1 [.int .i64 nn] rfl rfl (cell_one_new _ _ _) (one_int nn) (by unfold maxLen; omega) (by omega) (by simp; omega) ?_; intro v8 w8 hown8 hgrow8 _ _; have HO8 := Lib.hid hown8; have HG8 := Lib.hid hgrow8; clear hown8 hgrow8))
        refine ⟨⟨i + 1, nn, v8, seen ++ [nn], by omega, by go_num, rfl, rfl, by rw [List.length_append]; simp; omega, ?_, HI2.out, ?_⟩, by simp [intOf]; omega⟩
        · unfold OwnI
          rw [List.length_append, encI_snoc]
          exact HO8.out
        · exact below_grown ((HB.out.trans (HB6.out.mono hBs)).alloc (by omega) _) (by simp; omega) HG8.out (fun j hj => (HO.out.blk j hj).1)
    · obtain rfl : n = i := by omega
      go_wp2_with fail
      go_ret
      exact ⟨rfl, HB.out⟩
section
open Go.Deep
set_option maxRecDepth 100000 in
theorem open_LL {H : Type} {enc : TypeId × Value → H} {W : World} {base : Nat} {v : Value} {d : DataW H} {p : List MemPlace} (k0 : Value.okWide Try.prog W .any base 58 v) (h0 : DataW.Trod enc Try.prog W 0 (fun _ => true) true 58 v d p) (hz : ∀ k ∈ d.weights Try.prog 58, k ≤ reachBytes) :
    ∃ A n c Q, v = .slice A n c ∧ n ≤ c ∧ c ≤ 9223372036854775807 ∧ (A = none → n = 0) ∧ RdLs W (fun _ => True) A n Q ∧ n ≤ 10000000000000 := by
  obtain ⟨a0, l0, cp0, rfl⟩ := okWide_slice Try.underlying58 k0
  obtain ⟨fuel, hf⟩ := h0
  obtain ⟨A, n, c, C, D, sp, hcs, hnc, hcm, hA, hR, hel, hd⟩ := open_rowsD Try.underlying58 (by kernel_rfl) hf
  have hv : Value.slice a0 l0 cp0 = .slice A n c := by simpa [Value.cells] using hcs
  have hall : ∀ i, ∃ q : List Int, i < n → (∃ qA qc, C i = .slice qA q.length qc ∧ q.length ≤ qc ∧ qc ≤ 9223372036854775807 ∧ (qA = none → q.length = 0) ∧ RdI W (fun _ => True) qA q) ∧ q.length ≤ 17592186044416 ∧ ∀ x ∈ q, Wf x := fun i => by
    by_cases hi : i < n
    · obtain ⟨m, q, hy⟩ := hel i hi
      obtain ⟨qA, qn, qc, C2, D2, sp2, hcs2, hnc2, hcm2, hA2, hR2, hel2, hd2⟩ := open_rowsD Try.underlying52 (by kernel_rfl) hy
      have hvi : ∀ j, ∃ z : Int, j < qn → C2 j = .int .i64 z ∧ Wf z := fun j => by
        by_cases hj : j < qn
        · obtain ⟨m2, q2, hy2⟩ := hel2 j hj
          obtain ⟨z, e, _, hw⟩ := DataW.trod_int Try.underlying3 hy2
          simp at e
          exact ⟨z, fun _ => ⟨e, hw⟩⟩
        · exact ⟨0, fun h => absurd h hj⟩
      obtain ⟨Z, hZ⟩ := Classical.axiomOfChoice hvi
      have hl : ((List.range qn).map Z).length = qn := by simp
      refine ⟨(List.range qn).map Z, fun _ => ⟨⟨qA, qc, ?_, by omega, hcm2, fun h => by rw [hl]; exact hA2 h, fun h1 => ?_⟩, ?_, fun x hx => ?_⟩⟩
      · rw [hl]; simpa using hcs2
      · rw [hl] at h1 ⊢
        obtain ⟨b, off, e1, e2, e3⟩ := hR2 h1
        refine ⟨b, off, e1, e2, trivial, fun j hj => ?_⟩
        have := e3 j hj 0 _ rfl
        rw [(hZ j hj).1] at this
        simpa [lst, hj] using this
      · rw [hl]
        rcases hd2 with h2 | h2
        · omega
        · have hn0 : ¬ n = 0 := by omega
          rcases hd with h3 | h3
          · exact absurd h3 hn0
          · simp only at h2 h3
            have hD : D i ∈ (List.range n).map D := List.mem_map.2 ⟨i, List.mem_range.2 hi, rfl⟩
            have hw1 : (qn + sp2.length) * Try.prog.bytesOf 3 ∈ (D i).weights Try.prog 52 := by
              rw [h2]; simp [DataW.weights, Try.underlying52]
            have hw2 := weightsAll_mem (P := Try.prog) (e := 52) hD _ hw1
            have hw3 := hz _ (by rw [h3]; simp only [DataW.weights, Try.underlying58]; exact List.mem_cons_of_mem _ (List.mem_append_left _ hw2))
            have hb : Try.prog.bytesOf 3 = 8 := by kernel_rfl
            rw [hb] at hw3
            have := reachBytes_lt
            omega
      · obtain ⟨j, hj, rfl⟩ := List.mem_map.1 hx
        exact (hZ j (List.mem_range.1 hj)).2
    · exact ⟨[], fun h => absurd h hi⟩
  obtain ⟨Q, hQ⟩ := Classical.axiomOfChoice hall
  have hn13 : n ≤ 10000000000000 := by
    rcases hd with h3 | h3
    · omega
    · simp only at h3
      have hw3 := hz _ (show (n + sp.length) * Try.prog.bytesOf 52 ∈ _ by rw [h3]; simp [DataW.weights, Try.underlying58])
      have hb : Try.prog.bytesOf 52 = 24 := by kernel_rfl
      rw [hb] at hw3
      have := reachBytes_lt
      omega
  refine ⟨A, n, c, Q, hv, hnc, hcm, hA, fun h1 => ?_, hn13⟩
  obtain ⟨b, off, e1, e2, e3⟩ := hR h1
  refine ⟨b, off, e1, e2, trivial, fun i hi => ?_⟩
  obtain ⟨qA, qc, h2, h3⟩ := (hQ i hi).1
  have := e3 i hi 0 _ rfl
  rw [h2] at this
  exact ⟨qA, qc, by simpa using this, h3⟩
end
set_option maxRecDepth 100000 in
theorem turnWaits_walk {H : Type} {enc : TypeId × Value → H} (W : World) (base : Nat) (v0 v1 v2 : Value) {d0 d1 d2 : DataW H} {p0 p1 p2 : List MemPlace}
    (k0 : Value.okWide Try.prog W .any base 3 v0) (k1 : Value.okWide Try.prog W .any base 3 v1) (k2 : Value.okWide Try.prog W .any base 58 v2)
    (h0 : DataW.Trod enc Try.prog W 0 (fun _ => true) true 3 v0 d0 p0) (h1 : DataW.Trod enc Try.prog W 0 (fun _ => true) true 3 v1 d1 p1) (h2 : DataW.Trod enc Try.prog W 0 (fun _ => true) true 58 v2 d2 p2)
    (hz : ∀ k ∈ d2.weights Try.prog 58, k ≤ reachBytes) :
    Calls Try.prog 10 #[v0, v1, v2] W fun e W' => e = .returned (.bool true) ∧ Below W.heap.size W W' := by
  obtain ⟨a0, rfl, _, _, _⟩ := open_int Try.underlying3 k0 h0
  obtain ⟨a1, rfl, _, _, _⟩ := open_int Try.underlying3 k1 h1
  obtain ⟨A, n, c, Q, rfl, hnc, hcm, hA, hR, h13⟩ := open_LL k2 h2 hz
  exact turnWaits_go a0 a1 A n c Q _ W hnc hcm h13 hR
end Go.Proofs.Ytjcegplockihfaa
