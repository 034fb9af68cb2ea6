/- Contracts of package blob: Hold of a text in a new entry, and Hold of a full store. -/
import Derived.Test.YtelpommocgmdjaaBlobHold
namespace Go.Proofs.Ytelpommocgmdjaa
open Go.RowKit

set_option maxRecDepth 100000 in
set_option maxHeartbeats 1000000 in
theorem hold_full1 (A : Option Addr) (n c : Nat) (T : Nat → ByteArray) (M : Nat → Int) (x : ByteArray) (k : Nat) (w : World) (hn : n ≤ c) (hc : c ≤ 9223372036854775807) (hR : Rd w 2 (blobC T M) A n) (ok : OkS T M n) (hx : x.size ≤ 64)
    (hk : k < n) (hf : ixOf (hitB T M x) n = k) (hm : M k = 1000) : Calls Try.prog 28 #[.slice A n c, .string x] w (HoldErr w) := by
  have H := Lib.hid (check_ok A n c T M w hn hc hR ok)
  have h60 := ok.1
  have HR := Lib.hid hR
  have HF := Lib.hid hf
  obtain ⟨b, off, hA, hb0, hcell⟩ := hR (by omega)
  have c0 : w.cell? ⟨b, off + k * 2 + 1, none⟩ = some (.int .i64 1000) := by rw [hcell k hk 1 _ rfl, hm]
  subst hA
  clear hR ok hm hcell hf
  have k1 : ((k : Int) == 60) = false := by simp; omega
  go_enter Try.func28, Try.ntmps28
  go_wp2_with fail
  refine H.out.mono ?_
  rintro e w1 ⟨rfl, hb⟩
  go_wp2_with fail
  refine (find_any _ n c T M x _ (by omega) (HR.out.below hb)).mono ?_
  rintro e w2 ⟨rfl, hb2⟩
  rw [HF.out]
  have hB2 : Below w.heap.size w w2 := hb.trans (hb2.mono hb.size)
  have c1 : w2.cell? ⟨b, off + k * 2 + 1, none⟩ = some (.int .i64 1000) := (hB2.cell (p := ⟨b, _, none⟩) hb0).trans c0
  clear c0 hb hb2
  go_wp2_with fail
  go_ret3
  exact ⟨6, rfl, by omega, hB2⟩
set_option maxRecDepth 100000 in
set_option maxHeartbeats 1000000 in
theorem hold_full2 (A : Option Addr) (n c : Nat) (T : Nat → ByteArray) (M : Nat → Int) (x : ByteArray) (w : World) (hn : n ≤ c) (hc : c ≤ 9223372036854775807) (hR : Rd w 2 (blobC T M) A n) (ok : OkS T M n) (hx : x.size ≤ 64)
    (hf : ixOf (hitB T M x) n = -1) (hf2 : ixOf (freeB M) n = -1) (hm : n = 60) : Calls Try.prog 28 #[.slice A n c, .string x] w (HoldErr w) := by
  have H := Lib.hid (check_ok A n c T M w hn hc hR ok)
  have HR := Lib.hid hR
  have HF := Lib.hid hf
  have HF2 := Lib.hid hf2
  clear hR ok hf hf2
  subst hm
  go_enter Try.func28, Try.ntmps28
  go_wp2_with fail
  refine H.out.mono ?_
  rintro e w1 ⟨rfl, hb⟩
  go_wp2_with fail
  refine (find_any _ 60 c T M x _ (by omega) (HR.out.below hb)).mono ?_
  rintro e w2 ⟨rfl, hb2⟩
  rw [HF.out]
  have hB1 : Below w.heap.size w w2 := hb.trans (hb2.mono hb.size)
  clear hb hb2
  go_wp2_with fail
  refine (free_any _ 60 c T M _ (by omega) (HR.out.below hB1)).mono ?_
  rintro e w3 ⟨rfl, hb2⟩
  rw [HF2.out]
  have hB2 : Below w.heap.size w w3 := hB1.trans (hb2.mono hB1.size)
  clear hb2 hB1
  go_wp2_with fail
  go_ret3
  exact ⟨6, rfl, by omega, hB2⟩
theorem blobC_snoc (T : Nat → ByteArray) (M : Nat → Int) (n : Nat) (x : ByteArray) (y : Int) : flatC (blobC T M) n ++ [.string x, .int .i64 y] = flatC (blobC (updF T n x) (updF M n y)) (n + 1) := by
  rw [flatC]
  congr 1
  · apply flatC_congr
    intro i hi
    have : i ≠ n := by omega
    simp [blobC, updF, this]
  · simp [blobC, updF]
theorem one_two : ∀ u ∈ ([.string ⟨#[]⟩, .int .i64 0] : List Value), u.oneCell' = true := by
  intro u hu
  simp at hu
  rcases hu with rfl | rfl <;> rfl
theorem updF_updF {α : Type} (f : Nat → α) (k : Nat) (x y : α) : updF (updF f k x) k y = updF f k y := by
  funext i
  unfold updF
  by_cases e : i = k <;> simp [e]
set_option maxRecDepth 100000 in
set_option maxHeartbeats 1000000 in
theorem hold_new (A : Option Addr) (n c : Nat) (T : Nat → ByteArray) (M : Nat → Int) (x : ByteArray) (w : World) (hn : n ≤ c) (hc : c ≤ 9223372036854775807) (hA : A = none → n = 0) (hR : Rd w 2 (blobC T M) A n) (ok : OkS T M n) (hx : x.size ≤ 64)
    (hf : ixOf (hitB T M x) n = -1) (hf2 : ixOf (freeB M) n = -1) (hm : n < 60) : Calls Try.prog 28 #[.slice A n c, .string x] w (HoldPost (n + 1) n (blobC (updF T n x) (updF M n 1)) w) := by
  have H := Lib.hid (check_ok A n c T M w hn hc hR ok)
  have HR := Lib.hid hR
  have HF := Lib.hid hf
  have HF2 := Lib.hid hf2
  have HA := Lib.hid hA
  obtain ⟨i0, hi, hz0, hz1, hz2⟩ := info_parts info_cloneB
  clear hR ok hf hf2 hA
  have k1 : ((n : Int) == 60) = false := by simp; omega
  go_enter Try.func28, Try.ntmps28
  go_wp2_with fail
  refine H.out.mono ?_
  rintro e w1 ⟨rfl, hb⟩
  go_wp2_with fail
  refine (find_any _ n c T M x _ (by omega) (HR.out.below hb)).mono ?_
  rintro e w2 ⟨rfl, hb2⟩
  rw [HF.out]
  have hB1 : Below w.heap.size w w2 := hb.trans (hb2.mono hb.size)
  clear hb hb2
  go_wp2_with fail
  refine (free_any _ n c T M _ (by omega) (HR.out.below hB1)).mono ?_
  rintro e w3 ⟨rfl, hb2⟩
  rw [HF2.out]
  have hB2 : Below w.heap.size w w3 := hB1.trans (hb2.mono hB1.size)
  clear hb2 hB1
  go_wp2_with fail
  refine (cloneB _ n c (blobC T M) _ (HR.out.below hB2) (blobC_len T M) (blobC_one T M) HA.out (by omega)).mono ?_
  rintro e w4 ⟨v, rfl, hown, hb3⟩
  have hB3 : Below w.heap.size w w4 := hB2.trans (hb3.mono hB2.size)
  obtain ⟨A', cap, hv, hnc, hcm, _⟩ := own_any hown
  have hown := own_mono hown hB2.size
  have HO := Lib.hid hown
  have hz := hB3.size
  clear hown hb3
  rw [hv]
  rw [hv] at HO
  go_wp2_with (at_builtin; refine wpList_append_own _ rfl _ _ 56 rfl w.heap.size 70 i0 _ 2 24 Try.underlying56 hi hz0 hz1 hz2 rfl (by omega) (.slice A' n cap) n (flatC (blobC T M) n) rfl (HO.out.alloc _) ⟨w4.heap.size, 0, none⟩ 1 1 [.string ⟨#[]⟩, .int .i64 0] rfl rfl (cell_two_new _ _ _ _) one_two (by unfold maxLen; omega) (by omega) (by simp; omega) ?_; intro v5 w5 hown5 hgrow5 _; rw [blobC_snoc] at hown5; obtain ⟨g, cap5, hv5, hbase, hlt, hnc5, hcm5⟩ := own_form hown5 (by omega); subst hv5; obtain ⟨d0, d1, d2, d3, hown6⟩ := own_blob_set hown5 (show n < n + 1 by omega) x 1; rw [updF_updF, updF_updF] at hown6; have e1 : updF M n 0 n = 0 := (by simp [updF]); rw [e1] at d1; have HO6 := Lib.hid hown6; have HB5 := Lib.hid ((hB3.alloc hz _).grown hgrow5 (by simp; omega) (fun k hk => ((HO.out.lt k hk).1))); clear hown5 hown6 hgrow5 e1)
  go_ret3
  exact ⟨_, rfl, HO6.out, (HB5.out.setCell (p := ⟨g, n * 2, none⟩) hbase (.string x)).setCell (p := ⟨g, n * 2 + 1, none⟩) hbase (.int .i64 1)⟩
end Go.Proofs.Ytelpommocgmdjaa
