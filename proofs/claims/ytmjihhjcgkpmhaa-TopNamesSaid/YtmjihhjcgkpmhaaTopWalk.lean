/- The walk of the law TopNames. -/
import Derived.Test.YtmjihhjcgkpmhaaTnRv
import Derived.Test.YtmjihhjcgkpmhaaTopP
import Derived.Test.YtmjihhjcgkpmhaaTnGos
import Derived.Test.YtmjihhjcgkpmhaaInts
import Derived.Test.YtmjihhjcgkpmhaaTopRest
namespace Go.Proofs.Ytmjihhjcgkpmhaa
open Go.RowKit Go.Maps
set_option linter.unusedVariables false
/-- the cluster within the law: w when the law began, b the row of the names, K a bound of the counts -/
structure TN (w wr : World) (p N : Nat) (A : Option Addr) (ca b1 cb : Nat) (tb mb : Nat → Nat) (cnt : Nat → Int) (G : Nat → Nat → Option RW) (b : Nat) (K : Int) : Prop where
  cl : ClAt wr p N A ca b1 cb tb mb cnt G
  bel : Below w.heap.size w wr
  new : ∀ i, i < N → w.heap.size ≤ tb i ∧ w.heap.size ≤ mb i
  nms : ∀ j, j < 4 → wr.cell? ⟨b, j, none⟩ = some (.string (nmS j))
  off : ∀ i, i < N → tb i ≠ b ∧ mb i ≠ b
  cnt : ∀ i, i < N → cnt i ≤ K
section
variable {w wr w' : World} {p N : Nat} {A : Option Addr} {ca b1 cb : Nat} {tb mb : Nat → Nat} {cnt : Nat → Int} {G : Nat → Nat → Option RW} {b : Nat} {K K' : Int}
theorem TN.below (H : TN w wr p N A ca b1 cb tb mb cnt G b K) (hb : Below wr.heap.size wr w') : TN w w' p N A ca b1 cb tb mb cnt G b K :=
  ⟨H.cl.below hb, H.bel.trans (hb.mono H.bel.size), H.new, fun j hj => (hb.cell (p := ⟨b, j, none⟩) (World.block_lt_of_cell? wr _ (H.nms j hj))).trans (H.nms j hj), H.off, H.cnt⟩
theorem TN.mono (H : TN w wr p N A ca b1 cb tb mb cnt G b K) (hK : K ≤ K') : TN w wr p N A ca b1 cb tb mb cnt G b K' :=
  ⟨H.cl, H.bel, H.new, H.nms, H.off, fun i hi => Int.le_trans (H.cnt i hi) hK⟩
/-- a registry is written -/
theorem TN.write (H : TN w wr p N A ca b1 cb tb mb cnt G b K) {i : Nat} {c : Int} {g : Nat → Option RW} (hi : i < N) (hcl : ClAt w' p N A ca b1 cb tb mb (updN cnt i c) (updN G i g)) (hf : Fr (fun x => x = tb i ∨ x = mb i) wr w') (hc : c ≤ K') (hK : K ≤ K') : TN w w' p N A ca b1 cb tb mb (updN cnt i c) (updN G i g) b K' := by
  refine ⟨hcl, H.bel.trans (hf.below (fun x hx => ?_) H.bel.size), H.new, fun j hj => hf.cell (H.nms j hj) ?_, H.off, fun k hk => ?_⟩
  · have := H.new i hi
    rcases hx with h | h <;> omega
  · have := H.off i hi
    rintro (h | h)
    · exact this.1 h.symm
    · exact this.2 h.symm
  · by_cases e : k = i
    · subst e; rw [updN_self]; exact hc
    · rw [updN_ne _ _ e]; have := H.cnt k hk; omega
/-- a registry is merged into another one -/
theorem TN.gossip (H : TN w wr p N A ca b1 cb tb mb cnt G b K) {j m : Nat} {c : Int} {g : Nat → Option RW} (hj : j < N) (hcl : ClAt w' p N A ca b1 cb tb (updN mb j m) (updN cnt j c) (updN G j g)) (hf : Fr (fun x => x = tb j) wr w') (hm : m = mb j ∨ wr.heap.size ≤ m) (hc : c ≤ K) : TN w w' p N A ca b1 cb tb (updN mb j m) (updN cnt j c) (updN G j g) b K := by
  have hbl : b < wr.heap.size := World.block_lt_of_cell? wr _ (H.nms 0 (by omega))
  have hsz := H.bel.size
  refine ⟨hcl, H.bel.trans (hf.below (fun x hx => ?_) H.bel.size), fun k hk => ?_, fun k hk => hf.cell (H.nms k hk) ?_, fun k hk => ?_, fun k hk => ?_⟩
  · have := H.new j hj
    omega
  · by_cases e : k = j
    · subst e
      rw [updN_self]
      have := H.new k hk
      rcases hm with h | h <;> omega
    · rw [updN_ne _ _ e]; exact H.new k hk
  · exact fun h => (H.off j hj).1 h.symm
  · by_cases e : k = j
    · subst e
      rw [updN_self]
      have := H.off k hk
      rcases hm with h | h
      · rw [h]; exact this
      · exact ⟨this.1, by omega⟩
    · rw [updN_ne _ _ e]; exact H.off k hk
  · by_cases e : k = j
    · subst e; rw [updN_self]; exact hc
    · rw [updN_ne _ _ e]; exact H.cnt k hk
end
set_option maxRecDepth 100000 in
set_option maxHeartbeats 8000000 in
theorem topNames_go (nodes : Int) (A0 : Option Addr) (n0 c0 : Nat) (T0 : Nat → Int) (w : World) (hn0 : n0 ≤ c0) (hc0 : c0 ≤ 9223372036854775807) (hA0 : A0 = none → n0 = 0) (hR0 : Rd w 1 (tmC T0) A0 n0) :
    Calls Try.prog 3 #[.int .i64 nodes, .slice A0 n0 c0] w fun e w' => e = .returned (.bool true) ∧ Below w.heap.size w w' := by
  have HR0 := Lib.hid hR0
  clear hR0
  go_enter Try.func3, Try.ntmps3
  go_wp2_with fail
  refine (rest_any nodes 4 w (by omega) (by omega)).mono ?_
  rintro e w1 ⟨r, hr, rfl, rfl⟩
  obtain ⟨N, hN⟩ : ∃ N, N = r + 2 := ⟨_, rfl⟩
  have hNr : (2 : Int) + (r : Int) = (N : Int) := by omega
  have hN1 : 2 ≤ N := by omega
  have hN8 : N ≤ 5 := by omega
  have HNR := Lib.hid hNr
  clear hN hNr
  go_wp2_with fail
  rw [HNR.out]
  refine (rv_any N _ (by omega) (by omega)).mono ?_
  rintro e w2 ⟨p, A, ca, b1, cb, tb, mb, rfl, hCl, hB2, hnew⟩
  have hN0 : 0 < N := by omega
  have HCL := Lib.hid hCl
  have HB2 := Lib.hid hB2
  have HNW := Lib.hid hnew
  clear hCl hB2 hnew
  go_wp2_with fail
  refine (cset_any p N ca b1 cb A tb mb _ _ 1 1001 0 3 w2 HCL.out hN0 rfl (by omega) (by omega) (by omega)).mono ?_
  rintro e w3 ⟨rfl, hCl, hf⟩
  have HCL3 := Lib.hid hCl
  have HF3 := Lib.hid hf
  clear hCl hf
  go_wp2_with fail
  obtain ⟨q, hq⟩ : ∃ q : Nat, q = min n0 100 := ⟨_, rfl⟩
  have hq1 : q ≤ n0 := by omega
  have hq2 : q ≤ 100 := by omega
  rw [show (min (n0 : Int) 100).toNat = q by omega, show max (min (n0 : Int) 100) 0 = (q : Int) by omega, show min (n0 : Int) 100 = (q : Int) by omega]
  clear hq
  have HTN := Lib.hid (show TN w1 (w3.alloc (.cells #[.string ⟨#[97]⟩, .string ⟨#[98]⟩, .string ⟨#[99]⟩, .string ⟨#[120]⟩] 9)) p N A ca b1 cb tb mb _ _ w3.heap.size (1 + ((0 : Nat) : Int)) from by
    have hz : w2.heap.size ≤ w3.heap.size := HF3.out.size
    have h0 := HCL.out
    refine ⟨HCL3.out.below ((Below.refl _ _).alloc (Nat.le_refl _) _), ((HB2.out.trans (HF3.out.below (fun x hx => ?_) HB2.out.size)).alloc (Nat.le_trans HB2.out.size hz) _), HNW.out, fun j hj => ?_, fun i hi => ?_, fun i hi => ?_⟩
    · have := HNW.out 0 hN0
      rcases hx with h | h <;> omega
    · have hk : j = 0 ∨ j = 1 ∨ j = 2 ∨ j = 3 := by omega
      rcases hk with rfl | rfl | rfl | rfl <;> (simp [go_sem]; rfl)
    · have h1 := (h0.tab i hi).lt
      have h2 := (h0.tab i hi).tab.lt
      exact ⟨by omega, by omega⟩
    · by_cases e : i = 0
      · subst e; rw [updN_self]; decide
      · rw [updN_ne _ _ e]; decide)
  have hbN : w3.heap.size < (w3.alloc (.cells #[.string ⟨#[97]⟩, .string ⟨#[98]⟩, .string ⟨#[99]⟩, .string ⟨#[120]⟩] 9)).heap.size := by simp
  generalize w3.alloc (.cells #[.string ⟨#[97]⟩, .string ⟨#[98]⟩, .string ⟨#[99]⟩, .string ⟨#[120]⟩] 9) = w4 at HTN hbN ⊢
  generalize w3.heap.size = bN at HTN hbN ⊢
  clear HCL HB2 HNW HCL3 HF3 hbN
  go_loopw [45] (fun x wr => ∃ (j : Nat) (mb' : Nat → Nat) (cnt : Nat → Int) (G : Nat → Nat → Option RW), j ≤ q ∧ x = .int .i64 (j : Int) ∧ TN w1 wr p N A ca b1 cb tb mb' cnt G bN (1 + (j : Int))) (fun x _ => q - (intOf x).toNat)
  case atStart => exact ⟨0, _, _, _, by omega, rfl, HTN.out⟩
  case round =>
    obtain ⟨j, mb', cnt, G, hjq, rfl, hT⟩ := hrel
    have HT := Lib.hid hT
    clear hT
    by_cases hj : j < q
    · obtain ⟨b0, off, rfl, hb0, hcell⟩ := HR0.out (by omega)
      have ck : wr.cell? ⟨b0, off + j, none⟩ = some (.int .i64 (T0 j)) := (HT.out.bel.cell (p := ⟨b0, _, none⟩) hb0).trans (by simpa using hcell j (by omega) 0 _ rfl)
      have hd : decide ((j : Int) < (q : Int)) = true := decide_eq_true (by omega)
      have j0 : (0 : Int) ≤ (j : Int) := by omega
      have j1 : (j : Int) < (q : Int) := by omega
      generalize T0 j = k at ck
      clear hcell
      go_wp2_with fail
      refine (rest_any _ (N : Int) wr (by omega) (by omega)).mono ?_
      rintro e w5 ⟨r1, hr1, rfl, rfl⟩
      go_wp2_with fail
      refine (rest_any _ (N : Int) _ (by omega) (by omega)).mono ?_
      rintro e w6 ⟨r2, hr2, rfl, rfl⟩
      go_wp2_with fail
      refine (rest_any _ 4 _ (by omega) (by omega)).mono ?_
      rintro e w7 ⟨r3, hr3, rfl, rfl⟩
      have hi1 : r1 < N := by omega
      have hi2 : r2 < N := by omega
      have h3 : r3 = 0 ∨ r3 = 1 ∨ r3 = 2 ∨ r3 = 3 := by omega
      rcases h3 with rfl | rfl | rfl | rfl
      · skip
        go_wp2_with fail
        refine (rest_any _ 4 _ (by omega) (by omega)).mono ?_
        rintro e w8 ⟨r4, hr4, rfl, rfl⟩
        have hnm := HT.out.nms r4 (by omega)
        have x0 : (0 : Int) ≤ (r4 : Int) := by omega
        have hcb : cnt r1 < 1099511627776 := by have := HT.out.cnt r1 hi1; omega
        go_wp2_with fail
        refine (cset_any p N ca b1 cb A tb mb' cnt G (1 + (r1 : Int)) ((1 + (r2 : Int)) * 1000 + 1) r1 r4 _ HT.out.cl hi1 (by omega) (by omega) (by omega) hcb).mono ?_
        rintro e w9 ⟨rfl, hcl, hf⟩
        have HT9 := Lib.hid (HT.out.write (K' := 1 + ((j + 1 : Nat) : Int)) hi1 hcl hf (by have := HT.out.cnt r1 hi1; omega) (by omega))
        clear hcl hf hnm
        go_wp2_with fail
        exact ⟨⟨j + 1, _, _, _, by omega, by go_num, HT9.out⟩, by simp [intOf]; omega⟩
      · skip
        go_wp2_with fail
        refine (rest_any _ 4 _ (by omega) (by omega)).mono ?_
        rintro e w8 ⟨r4, hr4, rfl, rfl⟩
        have hnm := HT.out.nms r4 (by omega)
        have x0 : (0 : Int) ≤ (r4 : Int) := by omega
        have hcb : cnt r1 < 1099511627776 := by have := HT.out.cnt r1 hi1; omega
        go_wp2_with fail
        refine (cset_any p N ca b1 cb A tb mb' cnt G (1 + (r1 : Int)) ((1 + (r2 : Int)) * 1000 + 1) r1 r4 _ HT.out.cl hi1 (by omega) (by omega) (by omega) hcb).mono ?_
        rintro e w9 ⟨rfl, hcl, hf⟩
        have HT9 := Lib.hid (HT.out.write (K' := 1 + ((j + 1 : Nat) : Int)) hi1 hcl hf (by have := HT.out.cnt r1 hi1; omega) (by omega))
        clear hcl hf hnm
        go_wp2_with fail
        exact ⟨⟨j + 1, _, _, _, by omega, by go_num, HT9.out⟩, by simp [intOf]; omega⟩
      · go_wp2_with fail
        refine (rest_any _ 4 _ (by omega) (by omega)).mono ?_
        rintro e w8 ⟨r4, hr4, rfl, rfl⟩
        have hnm := HT.out.nms r4 (by omega)
        have x0 : (0 : Int) ≤ (r4 : Int) := by omega
        have hcb : cnt r1 < 1099511627776 := by have := HT.out.cnt r1 hi1; omega
        go_wp2_with fail
        refine (cdrop_any p N ca b1 cb A tb mb' cnt G (1 + (r1 : Int)) r1 r4 _ HT.out.cl hi1 (by omega) (by omega) hcb).mono ?_
        rintro e w9 ⟨x9, rfl, hcl, hf⟩
        have HT9 := Lib.hid (HT.out.write (K' := 1 + ((j + 1 : Nat) : Int)) hi1 hcl hf (by
          have := HT.out.cnt r1 hi1
          unfold dropG
          split <;> (dsimp only; omega)) (by omega))
        clear hcl hf hnm
        go_wp2_with fail
        exact ⟨⟨j + 1, _, _, _, by omega, by go_num, HT9.out⟩, by simp [intOf]; omega⟩
      · have hcb : cnt r1 ≤ 1099511627776 := by have := HT.out.cnt r1 hi1; omega
        go_wp2_with fail
        refine (gossip_new p N ca b1 cb A tb mb' cnt G (1 + (r1 : Int)) (1 + (r2 : Int)) r1 r2 _ HT.out.cl hi1 hi2 (by omega) (by omega) hcb).mono ?_
        rintro e w9 ⟨rfl, ⟨m9, hm9, hcl⟩, hf⟩
        have HT9 := Lib.hid ((HT.out.gossip hi2 hcl hf (.inr hm9) (mC_le ((HT.out.cl.ok r1 hi1).mono (HT.out.cnt r1 hi1)) (HT.out.cnt r2 hi2) _ (Nat.le_refl _))).mono (K' := 1 + ((j + 1 : Nat) : Int)) (by omega))
        clear hcl hf hm9
        go_wp2_with fail
        exact ⟨⟨j + 1, _, _, _, by omega, by go_num, HT9.out⟩, by simp [intOf]; omega⟩
    · have hd : decide ((j : Int) < (q : Int)) = false := decide_eq_false (by omega)
      obtain ⟨TT, hh, hGS⟩ := GS.start N (by omega) G
      have HGS := Lib.hid hGS
      have HTK := Lib.hid (HT.out.mono (K' := 200) (by omega))
      clear hGS HT
      go_wp2_with fail
      go_loopw [94] (fun x w5 => ∃ (rr : Nat) (mb2 : Nat → Nat) (cnt2 : Nat → Int) (G2 : Nat → Nat → Option RW) (f : Bool), rr ≤ 2 ∧ x = .int .i64 (rr : Int) ∧ TN w1 w5 p N A ca b1 cb tb mb2 cnt2 G2 bN 200 ∧ GS N TT hh f 0 0 G2 ∧ (1 ≤ rr → f = true)) (fun x _ => 2 - (intOf x).toNat)
      case atStart => exact ⟨0, _, _, _, _, by omega, rfl, HTK.out, HGS.out, fun h => by omega⟩
      case round =>
        rename World => w5
        obtain ⟨rr, mb2, cnt2, G2, f, hrr, rfl, hT, hG, hf⟩ := hrel
        have HT := Lib.hid hT
        have HG := Lib.hid hG
        have HFF := Lib.hid hf
        clear hT hG hf HTK HGS
        by_cases hr2 : rr < 2
        · have hd2 : decide ((rr : Int) < 2) = true := decide_eq_true (by omega)
          go_wp2_with fail
          go_loopw [13] (fun x w6 => ∃ (i : Nat) (mb3 : Nat → Nat) (cnt3 : Nat → Int) (G3 : Nat → Nat → Option RW), i ≤ N ∧ x = .int .i64 ((i : Int) + 1) ∧ TN w1 w6 p N A ca b1 cb tb mb3 cnt3 G3 bN 200 ∧ GS N TT hh f i 0 G3) (fun x _ => N + 1 - (intOf x).toNat)
          case atStart => exact ⟨0, _, _, _, by omega, rfl, HT.out, HG.out⟩
          case round =>
            rename World => w6
            obtain ⟨i, mb3, cnt3, G3, hiN, rfl, hT, hG⟩ := hrel
            have HT3 := Lib.hid hT
            have HG3 := Lib.hid hG
            clear hT hG
            by_cases hi : i < N
            · have hdi : decide ((i : Int) + 1 ≤ (N : Int)) = true := decide_eq_true (by omega)
              go_wp2_with fail
              go_loopw [14] (fun x w7 => ∃ (l : Nat) (mb4 : Nat → Nat) (cnt4 : Nat → Int) (G4 : Nat → Nat → Option RW), l ≤ N ∧ x = .int .i64 ((l : Int) + 1) ∧ TN w1 w7 p N A ca b1 cb tb mb4 cnt4 G4 bN 200 ∧ GS N TT hh f i l G4) (fun x _ => N + 1 - (intOf x).toNat)
              case atStart => exact ⟨0, _, _, _, by omega, rfl, HT3.out, HG3.out⟩
              case round =>
                rename World => w7
                obtain ⟨l, mb4, cnt4, G4, hlN, rfl, hT, hG⟩ := hrel
                have HT4 := Lib.hid hT
                have HG4 := Lib.hid hG
                clear hT hG
                by_cases hl : l < N
                · have hdl : decide ((l : Int) + 1 ≤ (N : Int)) = true := decide_eq_true (by omega)
                  have hcb : cnt4 i ≤ 1099511627776 := by have := HT4.out.cnt i hi; omega
                  go_wp2_with fail
                  refine (gossip_new p N ca b1 cb A tb mb4 cnt4 G4 ((i : Int) + 1) ((l : Int) + 1) i l _ HT4.out.cl hi hl rfl rfl hcb).mono ?_
                  rintro e w9 ⟨rfl, ⟨m9, hm9, hcl⟩, hf⟩
                  have HT9 := Lib.hid (HT4.out.gossip hl hcl hf (.inr hm9) (mC_le ((HT4.out.cl.ok i hi).mono (HT4.out.cnt i hi)) (HT4.out.cnt l hl) _ (Nat.le_refl _)))
                  have HG9 := Lib.hid (HG4.out.step hi hl)
                  clear hcl hf hm9
                  go_wp2_with fail
                  exact ⟨⟨l + 1, _, _, _, by omega, by go_num, HT9.out, HG9.out⟩, by simp [intOf]; omega⟩
                · have hdl : decide ((l : Int) + 1 ≤ (N : Int)) = false := decide_eq_false (by omega)
                  obtain rfl : l = N := by omega
                  go_wp2_with fail
                  exact ⟨⟨i + 1, _, _, _, by omega, by go_num, HT4.out, HG4.out.next⟩, by simp [intOf]; omega⟩
            · have hdi : decide ((i : Int) + 1 ≤ (N : Int)) = false := decide_eq_false (by omega)
              obtain rfl : i = N := by omega
              go_wp2_with fail
              exact ⟨⟨rr + 1, _, _, _, true, by omega, by go_num, HT3.out, HG3.out.round, fun _ => rfl⟩, by simp [intOf]; omega⟩
        · have hd2 : decide ((rr : Int) < 2) = false := decide_eq_false (by omega)
          obtain rfl : f = true := HFF.out (by omega)
          go_wp2_with fail
          go_loopw [114] (fun x w6 => ∃ k : Nat, k ≤ 4 ∧ x = .int .i64 (k : Int) ∧ TN w1 w6 p N A ca b1 cb tb mb2 cnt2 G2 bN 200) (fun x _ => 4 - (intOf x).toNat)
          case atStart => exact ⟨0, by omega, rfl, HT.out⟩
          case round =>
            rename World => w6
            obtain ⟨k, hk4, rfl, hT⟩ := hrel
            have HT6 := Lib.hid hT
            clear hT
            by_cases hk : k < 4
            · have hdk : decide ((k : Int) < 4) = true := decide_eq_true (by omega)
              have hnm := HT6.out.nms k hk
              have k0 : (0 : Int) ≤ (k : Int) := by omega
              go_wp2_with fail
              refine (cfind_any p N ca b1 cb A tb mb2 cnt2 G2 1 0 k _ HT6.out.cl hN0 rfl hk).mono ?_
              rintro e w7 ⟨rfl, hb7⟩
              have HT7 := Lib.hid (HT6.out.below hb7)
              have herr := find_err (G2 0) k
              have HALL := Lib.hid (fun a (ha : a < N) => HG.out.all ha hN0 hk)
              clear hnm hb7
              generalize findG (G2 0) k = fd at herr HALL ⊢
              obtain ⟨fv, fe⟩ := fd
              dsimp only at herr ⊢
              rcases herr with rfl | rfl
              all_goals
                go_wp2_with fail
                go_loopw [19] (fun x w8 => ∃ i : Nat, 1 ≤ i ∧ i ≤ N ∧ x = .int .i64 ((i : Int) + 1) ∧ TN w1 w8 p N A ca b1 cb tb mb2 cnt2 G2 bN 200) (fun x _ => N + 1 - (intOf x).toNat)
                case atStart => exact ⟨1, by omega, by omega, rfl, HT7.out⟩
                case round =>
                  rename World => w8
                  obtain ⟨i, hi1, hiN, rfl, hT⟩ := hrel
                  have HT8 := Lib.hid hT
                  clear hT
                  by_cases hi : i < N
                  · have hdi : decide ((i : Int) + 1 ≤ (N : Int)) = true := decide_eq_true (by omega)
                    go_wp2_with fail
                    refine (cfind_any p N ca b1 cb A tb mb2 cnt2 G2 ((i : Int) + 1) i k _ HT8.out.cl hi rfl hk).mono ?_
                    rw [HALL.out i hi]
                    dsimp only
                    rintro e w9 ⟨rfl, hb9⟩
                    have HT9 := Lib.hid (HT8.out.below hb9)
                    clear hb9
                    go_wp2_with fail
                    exact ⟨⟨i + 1, by omega, by omega, by go_num, HT9.out⟩, by simp [intOf]; omega⟩
                  · have hdi : decide ((i : Int) + 1 ≤ (N : Int)) = false := decide_eq_false (by omega)
                    go_wp2_with fail
                    exact ⟨⟨k + 1, by omega, by go_num, HT8.out⟩, by simp [intOf]; omega⟩
            · have hdk : decide ((k : Int) < 4) = false := decide_eq_false (by omega)
              go_wp2_with fail
              go_ret
              exact ⟨rfl, HT6.out.bel⟩
end Go.Proofs.Ytmjihhjcgkpmhaa
