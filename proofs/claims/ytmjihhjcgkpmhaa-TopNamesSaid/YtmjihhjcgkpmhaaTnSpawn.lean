/- The first actor of a node. -/
import Derived.Test.YtmjihhjcgkpmhaaTnSpawnA
import Derived.Test.YtmjihhjcgkpmhaaStepCall
import Derived.Deep.RegionLaw
namespace Go.Proofs.Ytmjihhjcgkpmhaa
open Go.RowKit Go.Maps
set_option linter.unusedVariables false
set_option maxRecDepth 100000 in
set_option maxHeartbeats 4000000 in
theorem spawn_any (b ma : Nat) (id : Int) (w : World) (H : NdAt w b id ma) (h1 : 1 ≤ id) (h2 : id ≤ 8) :
    Calls Try.prog 23 #[.pointer (some ⟨b, 0, none⟩), .string ⟨#[115, 105, 110, 107]⟩, .slice none 0 0] w fun e w' => e = .returned (.tuple #[.int .i64 (id * 1000 + 1), .int .i64 0]) ∧ Fr (fun x => x = b ∨ x = ma) w w' := by
  have HN := Lib.hid H
  obtain ⟨c0, c2, c3, c4, c6, fz, ne, tab⟩ := H
  have hmk : ∀ w, (Instr.makeMap 107 none).run Try.prog w = .ok (.map (some w.heap.size)) (w.alloc (.map #[] 0)) := fun w => by kernel_rfl
  have d1 : decide (0 ≤ (0 : Int)) = true := by decide
  clear tab
  go_enter Try.func23, Try.ntmps23
  go_wp2_with fail
  go_quiet (fail)
  go_wp2_with fail
  refine (diary_any _ _).mono ?_
  rintro e w1 ⟨db, rfl, hb⟩
  have hb1 : Below w.heap.size w w1 := (below_drewN (Below.refl _ w) nq).trans hb
  have HB1 := Lib.hid hb1
  have HN1 := Lib.hid (HN.out.fr (S := fun _ => False) (Fr.of_below hb1) (fun h => h) (fun h => h))
  obtain ⟨c0, c2, c3, c4, c6, fz, ne, tab⟩ := HN1.out
  have hk : keyOf Try.prog 3 (.int .i64 (id * 1000 + 1)) = some (.int .i64 (id * 1000 + 1)) := keyZ (by omega) (by omega)
  obtain ⟨v, ps, hlk, hv⟩ := tab.lookup lawN Try.underlying92 (z := .pointer none) (show (zeroValue 106).run Try.prog w1 = .ok (.pointer none) w1 by kernel_rfl) (show anyElem (.pointer none) = some (.held (.pointer none), []) from rfl) hk
  obtain rfl : v = .pointer none := by
    have := anyElem_inv hv
    injection this with this
    exact this.symm
  have hlen : ∀ ty, (Builtin.len_ #[92] ty #[.map (some ma)]).run Try.prog w1 = .ok (.int .i64 0) w1 := fun ty => tab.len Try.underlying92 ty
  have f6 := fz 6
  have hltm := tab.lt
  have hltb : b < w1.heap.size := World.block_lt_of_cell? w1 _ c0
  clear hb hb1 hv hk
  go_wp2_with fail
  go_loopw [69] (fun x wr => x = .int .i64 0 ∧ wr = (w1.alloc (.map #[] 0)).alloc (.cells #[.pointer (some ⟨db, 0, none⟩), .int .i64 (id * 1000 + 1), .slice none 0 0, .int .i64 0, .bool false, .int .i64 0, .map (some w1.heap.size)] 111)) (fun _ _ => 0)
  case atStart => exact ⟨rfl, rfl⟩
  case round =>
    obtain ⟨rfl, rfl⟩ := hrel
    go_wp2_with fail
    have hfr : Fr (fun x => x = b) w1 (((w1.setCell ⟨b, 6, none⟩ (.int .i64 1)).alloc (.map #[] 0)).alloc (.cells #[.pointer (some ⟨db, 0, none⟩), .int .i64 (id * 1000 + 1), .slice none 0 0, .int .i64 0, .bool false, .int .i64 0, .map (some w1.heap.size)] 111)) := ((Fr.set (S := fun x => x = b) (Fr.refl _ w1) (.inl rfl) _).alloc _).alloc _
    have HFR := Lib.hid hfr
    have hb2 : Below (w1.setCell ⟨b, 6, none⟩ (.int .i64 1)).heap.size (w1.setCell ⟨b, 6, none⟩ (.int .i64 1)) (((w1.setCell ⟨b, 6, none⟩ (.int .i64 1)).alloc (.map #[] 0)).alloc (.cells #[.pointer (some ⟨db, 0, none⟩), .int .i64 (id * 1000 + 1), .slice none 0 0, .int .i64 0, .bool false, .int .i64 0, .map (some w1.heap.size)] 111)) := ((Below.refl _ _).alloc (Nat.le_refl _) _).alloc (by simp) _
    have hlt2 : b < (w1.setCell ⟨b, 6, none⟩ (.int .i64 1)).heap.size := by simpa using hltb
    refine (nadd_any b (w1.heap.size + 1) ma id (id * 1000 + 1) _ ?_ ?_ ?_ (hfr.map tab (fun e => ne e.symm)) ?_ ne (by omega) (by omega) (by omega)).mono ?_
    · exact (hb2.cell (p := ⟨b, 3, none⟩) hlt2).trans (by simp [go_sem, c3])
    · exact (hb2.cell (p := ⟨b, 4, none⟩) hlt2).trans (by simp [go_sem, c4])
    · exact (hb2.frozen (p := ⟨b, 4, none⟩) hlt2).trans (by simpa [go_sem] using fz 4)
    · simp [go_sem]
    rintro e w2 ⟨rfl, hf⟩
    have HF := Lib.hid (((Fr.of_below HB1.out).trans' (HFR.out.weak fun x h => .inl h)).trans' hf)
    clear hf hfr
    go_wp2_with fail
    exact bodyPost_ret (results_two Try.results23 _ _) rfl ⟨rfl, HF.out⟩
end Go.Proofs.Ytmjihhjcgkpmhaa
