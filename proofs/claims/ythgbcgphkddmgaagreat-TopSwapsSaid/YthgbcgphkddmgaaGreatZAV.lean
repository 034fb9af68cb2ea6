/- What sends, ends and steps leave of a node, in plain words. The references of all actors. One turn of a node. An actor more. A cluster's runner is made; a diary is begun with a state. -/
import Derived.Test.YthgbcgphkddmgaaGreatZAR
import Derived.Test.YthgbcgphkddmgaaGreatZAS
import Derived.Test.YthgbcgphkddmgaaGreatZAH
import Derived.Test.YthgbcgphkddmgaaGreatZAU
import Derived.Deep.CutBlock
import Derived.LaidEqlPtr
import Derived.Deep.DeepCutAuto
import Derived.Test.YthgbcgphkddmgaaGreatZAL
import Derived.Test.YthgbcgphkddmgaaGreatZAM
namespace Go.Proofs.YthgbcgphkddmgaaGreat
open Go.RowKit
set_option linter.unusedVariables false
set_option linter.unusedSimpArgs false
/-- all but actors, rows and letters are as they were -/
structure KeepS (N N' : NdS) : Prop where
  id : N'.id = N.id
  fuel : N'.fuel = N.fuel
  homes : N'.homes = N.homes
  spawned : N'.spawned = N.spawned
  last : N'.last = N.last
  said : N'.said = N.said
theorem KeepS.refl (N : NdS) : KeepS N N := ⟨rfl, rfl, rfl, rfl, rfl, rfl⟩
theorem KeepS.trans {N N1 N2 : NdS} (h : KeepS N N1) (k : KeepS N1 N2) : KeepS N N2 :=
  ⟨k.id.trans h.id, k.fuel.trans h.fuel, k.homes.trans h.homes, k.spawned.trans h.spawned, k.last.trans h.last, k.said.trans h.said⟩
section
variable {rem : NdS → Int → ByteArray → NdS}
theorem deliverW_keep (hr : ∀ M r t, KeepS M (rem M r t)) (N : NdS) (x : LT) : KeepS N (deliverW rem N x) := by
  unfold deliverW
  split
  · split
    · exact KeepS.refl N
    · exact ⟨rfl, rfl, rfl, rfl, rfl, rfl⟩
  · split
    · exact ⟨rfl, rfl, rfl, rfl, rfl, rfl⟩
    · split
      · exact ⟨rfl, rfl, rfl, rfl, rfl, rfl⟩
      · split
        · split
          · exact hr _ _ _
          · exact KeepS.refl N
        · exact KeepS.refl N
theorem send1W_keep (hr : ∀ M r t, KeepS M (rem M r t)) (N : NdS) (x : LT) : KeepS N (send1W rem N x) := by
  unfold send1W
  split
  · exact deliverW_keep hr N x
  · split
    · exact ⟨rfl, rfl, rfl, rfl, rfl, rfl⟩
    · exact KeepS.refl N
theorem replyW_keep (hr : ∀ M r t, KeepS M (rem M r t)) (N : NdS) (x : LT) : KeepS N (replyW rem N x) := by
  unfold replyW
  split
  · exact KeepS.refl N
  · exact send1W_keep hr N _
theorem sendW_keep (hr : ∀ M r t, KeepS M (rem M r t)) (N : NdS) (x : LT) : KeepS N (sendW rem N x) := by
  unfold sendW
  split
  · exact deliverW_keep hr N x
  · split
    · exact ⟨rfl, rfl, rfl, rfl, rfl, rfl⟩
    · exact replyW_keep hr N x
theorem foldl_keep (hr : ∀ M r t, KeepS M (rem M r t)) : ∀ (l : List LT) (N : NdS), KeepS N (l.foldl (sendW rem) N)
  | [], N => KeepS.refl N
  | x :: l, N => (sendW_keep hr N x).trans (foldl_keep hr l _)
end
theorem remN_keep : ∀ (k : Nat) (N : NdS) (ref : Int) (failed : Bool) (text : ByteArray), KeepS N (remN k N ref failed text)
  | 0, N, _, _, _ => KeepS.refl N
  | k + 1, N, ref, failed, text => by
    have h : KeepS N ({ N.delA ref with rows := goneL N.rows ref } : NdS) := ⟨rfl, rfl, rfl, rfl, rfl, rfl⟩
    exact h.trans (foldl_keep (fun M r t => remN_keep k M r true t) _ _)
theorem sendN_keep (N : NdS) (x : LT) : KeepS N (sendN N x) := sendW_keep (fun M r t => remN_keep 60 M r true t) N x
/-- a spawn or a step leaves the frame of a node -/
structure KeepF (N N' : NdS) : Prop where
  id : N'.id = N.id
  fuel : N'.fuel = N.fuel
  homes : N'.homes = N.homes
  last : N'.last = N.last
  spawned : N.spawned ≤ N'.spawned
theorem KeepS.f {N N' : NdS} (h : KeepS N N') : KeepF N N' := ⟨h.id, h.fuel, h.homes, h.last, Nat.le_of_eq h.spawned.symm⟩
theorem KeepF.refl (N : NdS) : KeepF N N := ⟨rfl, rfl, rfl, rfl, Nat.le_refl _⟩
theorem KeepF.trans {N N1 N2 : NdS} (h : KeepF N N1) (k : KeepF N1 N2) : KeepF N N2 :=
  ⟨k.id.trans h.id, k.fuel.trans h.fuel, k.homes.trans h.homes, k.last.trans h.last, Nat.le_trans h.spawned k.spawned⟩
theorem spawnN_keep (N : NdS) (nm : ByteArray) (st : List (Int × Int)) : KeepF N (spawnN N nm st).1 := by
  unfold spawnN
  dsimp only
  split
  · exact KeepF.refl N
  · split
    · exact KeepF.refl N
    · split
      · exact KeepF.refl N
      · exact ⟨rfl, rfl, rfl, rfl, Nat.le_succ _⟩
theorem armN_keep (N2 : NdS) (r : Int) (a : ActS) (o : OutS) : KeepF N2 (armN N2 r a o).1 := by
  unfold armN
  split
  · exact ⟨rfl, rfl, rfl, rfl, Nat.le_refl _⟩
  split
  · exact (sendN_keep _ _).f
  split
  · exact (sendN_keep _ _).f
  split
  · exact KeepF.trans (N1 := { N2 with rows := linkL N2.rows r o.num }) ⟨rfl, rfl, rfl, rfl, Nat.le_refl _⟩ (sendN_keep _ _).f
  split
  · refine (spawnN_keep N2 o.text []).trans ?_
    dsimp only
    split
    · exact KeepF.refl _
    · exact ⟨rfl, rfl, rfl, rfl, Nat.le_refl _⟩
  split
  · exact ⟨rfl, rfl, rfl, rfl, Nat.le_refl _⟩
  split
  · exact (remN_keep _ _ _ _ _).f
  split
  · exact (remN_keep _ _ _ _ _).f
  · exact KeepF.refl _
theorem stepN_keep (N : NdS) (r : Int) : KeepF N (stepN N r).1 := by
  rcases ha : N.find r with _ | a
  · unfold stepN
    rw [ha]
    exact KeepF.refl N
  · rcases hg : (goA a).2 with _ | _
    · rw [stepN_no ha hg]
      exact ⟨rfl, rfl, rfl, rfl, Nat.le_refl _⟩
    · rw [stepN_go ha hg]
      exact KeepF.trans (N1 := (N.setA (goA a).1).setA (ranA N a)) ⟨rfl, rfl, rfl, rfl, Nat.le_refl _⟩ (armN_keep _ _ _ _)
end Go.Proofs.YthgbcgphkddmgaaGreat
namespace Go.Proofs.YthgbcgphkddmgaaGreat
open Go.RowKit Go.Maps
set_option linter.unusedVariables false
set_option linter.unusedSimpArgs false
theorem nodup_leI : ∀ {l m : List Int}, l.Nodup → (∀ x ∈ l, x ∈ m) → l.length ≤ m.length
  | [], _, _, _ => Nat.zero_le _
  | x :: l, m, h, hs => by
    have hx := hs x (by simp)
    have h2 := List.nodup_cons.1 h
    have : l.length ≤ (m.erase x).length := nodup_leI h2.2 fun y hy => by
      refine (List.mem_erase_of_ne ?_).2 (hs y (by simp [hy]))
      rintro rfl
      exact h2.1 hy
    rw [List.length_erase_of_mem hx] at this
    have hp := List.length_pos_of_mem hx
    simp
    omega
theorem refsN_sorted {N : NdS} (hs : N.acts.Pairwise fun a b => a.ref < b.ref) : (refsN N).Pairwise (· < ·) := by
  unfold refsN
  exact List.pairwise_map.2 hs
theorem refsN_len (N : NdS) : (refsN N).length = N.acts.length := by unfold refsN; simp
theorem mem_refsN {N : NdS} {x : Int} : x ∈ refsN N ↔ N.has x = true := by
  rw [has_iff]
  unfold refsN
  simp
theorem srt_refsN {N : NdS} (hs : N.acts.Pairwise fun a b => a.ref < b.ref) {L : List Int} (hn : L.Nodup) (hm : ∀ x, x ∈ L ↔ N.has x = true) : srt L = refsN N := by
  have h1 := refsN_sorted hs
  have hnd : (refsN N).Nodup := h1.imp (by intro a b h; omega)
  have hp : L.Perm (refsN N) := (List.perm_ext_iff_of_nodup hn hnd).2 fun x => (hm x).trans mem_refsN.symm
  rw [srt_eq hp]
  refine List.Perm.eq_of_pairwise (le := fun a b : Int => a ≤ b) (fun a b _ _ h1 h2 => by omega) (srt_pairwise _) (h1.imp (by intro a b h; omega)) (srt_perm _)
set_option maxRecDepth 100000 in
set_option maxHeartbeats 4000000 in
theorem refs_any {w : World} {X M : Nat → Prop} {base T p : Nat} {P : Int → Nat} {N : NdS} (h : NodeAt w X M base T p P N) :
    Calls Tryz.prog 37 #[.pointer (some ⟨p, 0, none⟩)] w fun e w' => ∃ A c, e = .returned (.slice A N.acts.length c) ∧ OwnI w' w.heap.size (.slice A N.acts.length c) (refsN N) ∧ Below w.heap.size w w' := by
  obtain ⟨h1, h2, h3, mb, hb, MA, ob, sb, h4, h5⟩ := h
  have c3 := h4.c3
  have HOM := Lib.hid h4.am
  have hmb := h4.lt.2.1
  have hl60 := h1.len
  have HS := Lib.hid h1.srt
  have hwf : ∀ x, N.has x = true → Wf x := fun x hx => by
    obtain ⟨a, ha, rfl⟩ := has_iff.1 hx
    exact (h1.act a ha).ref
  have HWF := Lib.hid hwf
  clear h1 h2 h3 h4 h5 hwf
  go_enter Tryz.func37, Tryz.ntmps37
  go_wp2_with (first | (at_range; go_loud (refine wp_range_M rfl _ 129 143 rfl und_actors mb _ _ rfl HOM.out ?_); intro w0 hrng hfr hsz; have HRNG := Lib.hid hrng; have HFR0 := Lib.hid hfr; clear hrng hfr))
  go_frame
  generalize hgg : (fun r => if N.has r = true then some (Value.pointer (some ⟨P r, 0, none⟩)) else none) = g at *
  have HGG := Lib.hid hgg
  clear hgg
  go_loopw [3, 4] (fun v3 v4 wr => ∃ L A c, v3 = .slice A L.length c ∧ RngM wr mb w.heap.size g L ∧ OwnI wr (w.heap.size + 1) (.slice A L.length c) L ∧ Below w.heap.size w wr ∧ w.heap.size + 1 ≤ wr.heap.size) (fun _ _ wr => wr.rangeLeft mb w.heap.size)
  case atStart => exact ⟨[], none, 0, rfl, HRNG.out, OwnI.nil _ _, HFR0.out.below (fun _ h => h.elim) (Nat.le_refl _), by omega⟩
  case round =>
    obtain ⟨L, A, c, rfl, hR, hO, hB, hszr⟩ := hrel
    have HR := Lib.hid hR
    have HO := Lib.hid hO
    have HB := Lib.hid hB
    have hL : ∀ x, x ∈ L → N.has x = true := fun x hx => by
      obtain ⟨_, _, _, _, _, _, _, h4, _⟩ := hR
      have := (h4 x hx).2
      rw [← HGG.out] at this
      by_cases e : N.has x = true
      · exact e
      · simp [e] at this
    have hnd : L.Nodup := by
      obtain ⟨_, _, _, _, _, _, h3, _⟩ := hR
      exact h3
    have hlen : L.length ≤ 60 := by
      have := nodup_leI hnd (m := refsN N) (fun x hx => mem_refsN.2 (hL x hx))
      rw [refsN_len] at this
      omega
    have HND := Lib.hid hnd
    have HL := Lib.hid hL
    clear hR hO hB hsz hL hnd
    go_wp2_with (first
      | (at_next; (refine wp_next_M rfl _ rfl mb w.heap.size g L rfl HR.out ?_ ?_; rotate_left; (intro x v w5 hwx hgx hxL hR5 hlt5 hf5 hs5 hen; have HR5 := Lib.hid hR5; have HF5 := Lib.hid hf5; have HO5 := Lib.hid (show OwnI w5 (w.heap.size + 1) (.slice A L.length c) L from hf5.row HO.out (fun k hk e => by have := (HO.out.blk k hk).1; omega)); have HLT5 := Lib.hid hlt5; have HS5 := Lib.hid hs5; have hw5 : w.heap.size + 1 ≤ w5.heap.size := (by omega); clear hwx hgx hxL hR5 hf5 hlt5 hs5); rotate_left; (intro hd; have HD := Lib.hid hd; clear hd)))
      | (at_builtin; go_loud (refine wpList_append_int rfl _ _ rfl (w.heap.size + 1) (.slice A L.length c) L rfl HO5.out w5.heap.size rfl x rfl (by omega) (by omega) ?_; intro v6 w6 hO6 hg6 hat6; have HO6 := Lib.hid hO6; have HG6 := Lib.hid hg6; have HA6 := Lib.hid hat6; clear hO6 hg6 hat6)))
    · refine (sortI_own _ _ L _ HO.out (by omega)).mono ?_
      rintro e w6 ⟨rfl, hO6, hg6⟩
      have HO6 := Lib.hid hO6
      have HG6 := Lib.hid hg6
      clear hO6 hg6
      go_wp2_with fail
      have hmem : ∀ x, x ∈ L ↔ N.has x = true := fun x => ⟨HL.out x, fun hx => HD.out x (HWF.out x hx) (by rw [← HGG.out]; simp [hx])⟩
      have hsr := srt_refsN HS.out HND.out hmem
      have hll : L.length = N.acts.length := by rw [← srt_len L, hsr, refsN_len]
      go_ret
      refine ⟨A, c, by rw [hll]; rfl, ?_, ?_⟩
      · rw [← hsr, ← hll]
        exact HO6.out.mono (by omega)
      · exact below_grown HB.out HB.out.size HG6.out (fun k hk => by have := (HO.out.blk k hk).1; omega)
    · obtain ⟨A6, c6, hv6, -, -, -⟩ := own_any HO6.out
      obtain ⟨r1, r2, r3⟩ := HR5.out.lt
      have hrb := HB.out.size
      have hg6 := HG6.out
      have hne : (Value.slice A L.length c).ownBlock ≠ some mb ∧ (Value.slice A L.length c).ownBlock ≠ some w.heap.size := ⟨fun e => by have := (HO.out.blk mb e).1; omega, fun e => by have := (HO.out.blk _ e).1; omega⟩
      obtain ⟨k1, k2⟩ := HR5.out.fr (Fr.of_grown (S := fun k => (Value.slice A L.length c).ownBlock = some k) hg6 (fun k hk => .inl hk)) hne.1 hne.2
      have hm := HLT5.out
      have hs5 := HS5.out
      refine ⟨⟨L ++ [x], A6, c6, hv6.trans (by simp), k1, by have := HO6.out; rw [hv6] at this; simpa using this, ?_, ?_⟩, ?_⟩
      · exact below_grown (HB.out.trans (HF5.out.below (fun k hk => by omega) hrb)) (by omega) hg6 (fun k hk => by have := (HO.out.blk k hk).1; omega)
      · have := hg6.size; omega
      · omega
end Go.Proofs.YthgbcgphkddmgaaGreat
namespace Go.Proofs.YthgbcgphkddmgaaGreat
open Go.RowKit Go.Maps
set_option linter.unusedVariables false
set_option linter.unusedSimpArgs false
theorem can_nd {w : World} {X M : Nat → Prop} {base T p : Nat} {P : Int → Nat} {N : NdS} {r : Int} {a : ActS} (h : NodeAt w X M base T p P N) (ha : N.find r = some a) :
    Calls Tryz.prog 66 #[.pointer (some ⟨P r, 0, none⟩)] w fun e w' => e = .returned (.bool (canA a)) ∧ ∃ q, w' = w.drewN q := by
  obtain ⟨pa, b, rb, kb, ib, MA, mb, rfl, _, hA, _⟩ := h.act ha
  exact can_any X base T MA (P r) b rb kb ib a w hA
set_option maxRecDepth 100000 in
set_option maxHeartbeats 400000 in
theorem next_nil (A : Option Addr) (c : Nat) (last : Int) (w : World) (hc : c ≤ 9223372036854775807) : Calls Tryz.prog 67 #[.slice A 0 c, .int .i64 last] w fun e w' => e = .returned (.tuple #[.int .i64 0, .int .i64 4]) ∧ ∃ q, w' = w.drewN q := by
  have H := Lib.hid (Tu.checkR_any A 0 c (fun _ => 0) w (Nat.zero_le _) hc (fun h => by omega))
  go_enter Tryz.func67, Tryz.ntmps67
  go_wp2_with fail
  refine H.out.mono ?_
  rintro e w1 ⟨x, rfl, hx, q, rfl⟩
  obtain rfl : x = 0 := hx.2 ⟨by omega, fun k hk => by omega⟩
  clear hx
  go_wp2_with fail
  go_ret2
  exact ⟨rfl, q, rfl⟩
theorem aft_next {l : List Int} (h : l ≠ []) (last : Int) : Tu.aftOf (lst l) l.length last = nextI l last := by
  unfold Tu.aftOf nextI
  rcases hf : l.find? (fun n => decide (last < n)) with _ | x
  · have hn : ixOf (fun k => decide (last < lst l k)) l.length = -1 := ixOf_none (fun j hj => by
      have := List.find?_eq_none.1 hf (l[j]) (List.getElem_mem hj)
      unfold lst
      rw [List.getD_eq_getElem?_getD, List.getElem?_eq_getElem hj, Option.getD_some]
      simpa using this)
    rw [hn, if_neg (by omega)]
    cases l with
    | nil => exact absurd rfl h
    | cons a l => rfl
  · obtain ⟨hp, i, hi, hix, hlo⟩ := List.find?_eq_some_iff_getElem.1 hf
    have e : ∀ j (hj : j < l.length), lst l j = l[j] := fun j hj => by
      unfold lst
      rw [List.getD_eq_getElem?_getD, List.getElem?_eq_getElem hj, Option.getD_some]
    have hn : ixOf (fun k => decide (last < lst l k)) l.length = (i : Int) := ixOf_found hi (by rw [e i hi, hix]; exact hp) (fun j hj => by
      have := hlo j hj
      rw [e j (by omega)]
      simpa using this)
    rw [hn, if_pos (by omega), Int.toNat_natCast, e i hi]
    exact hix
theorem NodeAt.set7 {w : World} {X M : Nat → Prop} {base T p : Nat} {P : Int → Nat} {N : NdS} (h : NodeAt w X M base T p P N) (l : Int) : NodeAt (w.setCell ⟨p, 7, none⟩ (.int .i64 l)) X M base T p P { N with last := l } := by
  obtain ⟨h1, h2, h3, mb, hb, MA, ob, sb, h4, h5⟩ := h
  exact ⟨{ h1 with }, fun k hk => by simpa using h2 k hk, h3, mb, hb, MA, ob, sb, h4.set7 (h3 p h5.p) l, h5.p, h5.mb, h5.hb, h5.ob, h5.sb, h5.act⟩
theorem NodeAt.lastc {w : World} {X M : Nat → Prop} {base T p : Nat} {P : Int → Nat} {N : NdS} (h : NodeAt w X M base T p P N) : w.cell? ⟨p, 7, none⟩ = some (.int .i64 N.last) := by
  obtain ⟨_, _, _, _, _, _, _, _, h4, _⟩ := h
  exact h4.c7
/-- those of the first q actors who can have a turn -/
def rdyN (l : List ActS) (q : Nat) : List Int := ((l.take q).filter canA).map (·.ref)
theorem rdy_succ {l : List ActS} {q : Nat} {a : ActS} (h : l[q]? = some a) : rdyN l (q + 1) = rdyN l q ++ (if canA a then [a.ref] else []) := by
  unfold rdyN
  rw [List.take_add_one, h, List.filter_append, List.map_append]
  congr 1
  show List.map _ (List.filter canA [a]) = _
  rcases hc : canA a with _ | _ <;> simp [hc]
theorem rdy_sorted {N : NdS} (hs : N.acts.Pairwise fun a b => a.ref < b.ref) : (readyN N).Pairwise (· < ·) := by
  unfold readyN
  exact List.pairwise_map.2 (hs.filter _)
theorem eql_nil (a : Addr) (w : World) : (binOp BinOp.eql 143 (.pointer none) (.pointer (some a))).run Tryz.prog w = .ok (.bool false) w := by kernel_rfl
theorem info_actor : (Tryz.prog.info? 148).isSome = true := by kernel_rfl
theorem eql_same (a : Addr) (w : World) : (binOp BinOp.eql 143 (.pointer (some a)) (.pointer (some a))).run Tryz.prog w = .ok (.bool true) w := by
  obtain ⟨j, hj⟩ := Option.isSome_iff_exists.1 info_actor
  exact run_eql_ptr_same w a Tryz.underlying143 hj
theorem loopN_succ (k : Nat) (N : NdS) (r : Int) : loopN (k + 1) N r = if N.has r = true then (if (stepN N r).2 = true then loopN k (stepN N r).1 r else (stepN N r).1) else N := rfl
theorem nextI_mem {l : List Int} (h : l ≠ []) (last : Int) : nextI l last ∈ l := by
  unfold nextI
  rcases hf : l.find? (fun n => decide (last < n)) with _ | x
  · cases l with
    | nil => exact absurd rfl h
    | cons a l => simp
  · exact List.mem_of_find?_eq_some hf
def TurnPost (X M : Nat → Prop) (base T p : Nat) (P : Int → Nat) (N : NdS) (w : World) (e : Ending) (w' : World) : Prop :=
  e = .returned (.tuple #[.int .i64 (turnN N).2.1, .int .i64 (turnN N).2.2]) ∧ ∃ P' X' M', Gr X M w X' M' w' ∧ NodeAt w' X' M' base T p P' (turnN N).1
set_option maxRecDepth 100000 in
set_option maxHeartbeats 8000000 in
theorem turn_any {w : World} {X M : Nat → Prop} {base T p : Nat} {P : Int → Nat} {N : NdS} (h : NodeAt w X M base T p P N) (hT : T + 200000000 ≤ 1000000000000) :
    Calls Tryz.prog 41 #[.pointer (some ⟨p, 0, none⟩)] w (TurnPost X M base (T + 60000000) p P N w) := by
  have HT := Lib.hid hT
  have HN := Lib.hid h
  have hok := h.ok
  have HOK := Lib.hid hok
  have hln := hok.len
  have hplt := h.p_lt
  have HR := Lib.hid (refs_any h)
  obtain ⟨mb, c3, hmb, hMb, hlk1, hlk2⟩ := h.look
  have HLK1 := Lib.hid hlk1
  have c7 := h.lastc
  have hfz := h.fzp
  clear h hT hok hlk1 hlk2
  go_enter Tryz.func41, Tryz.ntmps41
  go_wp2_with fail
  refine HR.out.mono ?_
  rintro e w1 ⟨A1, cc1, rfl, hO1, hb1⟩
  have HO1 := Lib.hid hO1
  have HB1 := Lib.hid hb1
  have HF1 := Lib.hid (Fr.of_below (S := fun _ => False) hb1)
  obtain ⟨A1', cc1', hv1, k1, k2, -⟩ := own_any hO1
  injection hv1 with e1 e2 e3
  subst e1 e3
  clear e2
  rw [refsN_len] at k1
  have d3 := HF1.out.cell c3 (fun h => h)
  clear hO1 hb1
  go_upto_block 0 with (fail)
  go_cut [4] (fun v4 wx => ∃ A c, v4 = .slice A (readyN N).length c ∧ Hid ((readyN N).length ≤ c ∧ c ≤ 9223372036854775807 ∧ (A = none → (readyN N).length = 0) ∧ Rd wx 1 (tmC (lst (readyN N))) A (readyN N).length) ∧ Hid (Fr (fun _ => False) w wx))
  case first =>
    have hz1 := HB1.out.size
    go_wp2_with fail
    go_loopw [4, 6, 14] (fun v4 _ v14 wr => ∃ q A c, q ≤ N.acts.length ∧ v14 = .int .i64 (q : Int) ∧ v4 = .slice A (rdyN N.acts q).length c ∧ Hid (OwnI wr w1.heap.size (.slice A (rdyN N.acts q).length c) (rdyN N.acts q)) ∧ Hid (Below w1.heap.size w1 wr)) (fun _ _ v14 _ => N.acts.length - (intOf v14).toNat)
    case atStart => exact ⟨0, none, 0, Nat.zero_le _, rfl, rfl, Lib.hid (OwnI.nil _ _), Lib.hid (Below.refl _ _)⟩
    case round =>
      obtain ⟨q, A, c, hq, rfl, rfl, HO, HB⟩ := hrel
      have hzr := HB.out.size
      have hrl : (rdyN N.acts q).length ≤ 60 := by
        unfold rdyN
        rw [List.length_map]
        exact Nat.le_trans (List.length_filter_le _ _) (by rw [List.length_take]; omega)
      by_cases hlt : q < N.acts.length
      · obtain ⟨b, off, hA1, hb, hcell⟩ := (HO1.out.rd.below HB.out) (by rw [refsN_len]; omega)
        subst hA1
        have c0 := hcell q (by rw [refsN_len]; exact hlt) 0 _ rfl
        simp only [Nat.add_zero, Nat.mul_one] at c0
        obtain ⟨a, ha⟩ : ∃ a, N.acts[q]? = some a := ⟨_, List.getElem?_eq_getElem hlt⟩
        have hal : lst (refsN N) q = a.ref := by
          unfold lst refsN
          rw [List.getD_eq_getElem?_getD, List.getElem?_map, ha]
          rfl
        rw [hal] at c0
        have hfa := find_of_mem HOK.out.srt (List.mem_of_getElem? ha)
        have hfr : Fr (fun _ => False) w wr := HF1.out.trans' (Fr.of_below HB.out)
        obtain ⟨pa, hpa, _, _, _, _, hlk⟩ := HLK1.out a.ref a hfa
        subst hpa
        have hl1 := hlk wr (hfr.weak (fun _ h => h.elim))
        have d3r := hfr.cell c3 (fun h => h)
        have HCAN := Lib.hid (can_nd (HN.out.new hfr (fun _ h => h)) hfa)
        have HRS := Lib.hid (rdy_succ ha)
        have i1 : (0 : Int) ≤ (q : Int) := by omega
        have i2 : (q : Int) < (N.acts.length : Int) := by omega
        clear hcell hal hfa hfr hlk ha
        rcases hcn : canA a with _ | _
        · rw [hcn] at HCAN HRS
          clear hcn
          go_wp2_with fail
          refine HCAN.out.mono ?_
          rintro e w5 ⟨rfl, q5, rfl⟩
          go_wp2_with fail
          go_roundw
          case rel =>
            refine ⟨q + 1, A, c, by omega, by go_num, ?_, Lib.hid ?_, Lib.hid (below_drewN HB.out _)⟩
            · rw [HRS.out]; simp
            · rw [HRS.out]
              simpa using HO.out.below (below_drewN (Below.refl _ _) q5)
          case measure => simp [intOf]; omega
        · rw [hcn] at HCAN HRS
          clear hcn
          go_wp2_with fail
          refine HCAN.out.mono ?_
          rintro e w5 ⟨rfl, q5, hw5⟩
          have HB5 := Lib.hid (show Below wr.heap.size wr w5 by rw [hw5]; exact below_drewN (Below.refl _ _) _)
          have hz5 := HB5.out.size
          clear hw5
          go_wp2_with (at_builtin; (refine wpList_append_int rfl _ _ rfl w1.heap.size (.slice A (rdyN N.acts q).length c) (rdyN N.acts q) rfl (HO.out.below HB5.out) w5.heap.size rfl a.ref rfl (by omega) (by omega) ?_; intro v6 w6 hO6 hg6 hat6; have HO6 := Lib.hid hO6; have HG6 := Lib.hid hg6; clear hO6 hg6 hat6))
          go_roundw
          case rel =>
            obtain ⟨A6, c6, hv6, -, -, -⟩ := own_any HO6.out
            have e6 : rdyN N.acts q ++ [a.ref] = rdyN N.acts (q + 1) := by rw [HRS.out]; simp
            have hO6 := HO6.out
            rw [e6] at hv6 hO6
            rw [hv6] at hO6
            refine ⟨q + 1, A6, c6, by omega, by go_num, hv6, Lib.hid hO6, Lib.hid ?_⟩
            exact below_grown (HB.out.trans (HB5.out.mono hzr)) (by omega) HG6.out (fun k hk => by have := (HO.out.blk k hk).1; omega)
          case measure => simp [intOf]; omega
      · obtain rfl : q = N.acts.length := by omega
        go_wp2_with fail
        have e : rdyN N.acts N.acts.length = readyN N := by unfold rdyN readyN; rw [List.take_length]
        have hO := HO.out
        rw [e] at hO
        obtain ⟨A', c', hv, k3, k4, k5⟩ := own_any hO
        injection hv with e1 e2 e3
        subst e1 e3
        go_meet
        refine ⟨A, c, by rw [e], Lib.hid ⟨k3, k4, k5, hO.rd⟩, Lib.hid (HF1.out.trans' (Fr.of_below HB.out))⟩
  case rest =>
    obtain ⟨Ar, cr, rfl, HRD, HFr⟩ := hcut
    clear HR HO1 HB1 HF1 k1 k2 d3
    have c7r := HFr.out.cell c7 (fun h => h)
    have hpr := Nat.lt_of_lt_of_le hplt HFr.out.size
    have hfzr : ∀ o, wc.frozen? ⟨p, o, none⟩ = false := fun o => (HFr.out.frozen hplt (fun h => h)).trans (hfz o)
    have HNR := Lib.hid (HN.out.new HFr.out (fun _ h => h))
    by_cases hrd : readyN N = []
    · have HE := Lib.hid (show turnN N = (N, 0, 4) by unfold turnN; rw [if_pos hrd])
      have h0 : (readyN N).length = 0 := by rw [hrd]; rfl
      have HNX := Lib.hid (next_nil Ar cr N.last wc HRD.out.2.1)
      rw [h0]
      clear hrd h0
      go_wp2_with fail
      refine HNX.out.mono ?_
      rintro e w5 ⟨rfl, q5, rfl⟩
      go_wp2_with fail
      refine bodyPost_ret (v := .tuple #[.int .i64 0, .int .i64 4]) (by simp [results, Tryz.results41, go_sem]) rfl ?_
      unfold TurnPost
      rw [HE.out]
      have hfd : Fr (fun _ => False) w (wc.drewN q5) := HFr.out.trans' (Fr.of_below (below_drewN (Below.refl _ _) _))
      exact ⟨rfl, P, X, M, Gr.new hfd, (HN.out.new hfd (fun _ h => h)).up (by omega)⟩
    · obtain ⟨rf, hrf⟩ : ∃ rf, nextI (readyN N) N.last = rf := ⟨_, rfl⟩
      have HE := Lib.hid (show turnN N = (loopN N.fuel { N with last := rf } rf, rf, 0) by unfold turnN; rw [if_neg hrd, hrf])
      have hmem : rf ∈ readyN N := by rw [← hrf]; exact nextI_mem hrd _
      obtain ⟨a, ha, har⟩ : ∃ a, a ∈ N.acts ∧ a.ref = rf := by
        unfold readyN at hmem
        obtain ⟨a, ha, e⟩ := List.mem_map.1 hmem
        exact ⟨a, (List.mem_filter.1 ha).1, e⟩
      have hfa : N.find rf = some a := har ▸ find_of_mem HOK.out.srt ha
      have hwr : Wf rf := har ▸ (HOK.out.act a ha).ref
      have hl0 : 0 < (readyN N).length := List.length_pos_iff.2 hrd
      have hl60 : (readyN N).length ≤ 60 := by
        unfold readyN
        rw [List.length_map]
        exact Nat.le_trans (List.length_filter_le _ _) hln
      have hokr : Tu.OkR (lst (readyN N)) (readyN N).length := ⟨by omega, fun k hk => by
        have := List.pairwise_iff_getElem.1 (rdy_sorted HOK.out.srt) k (k + 1) (by omega) hk (by omega)
        unfold lst
        rw [List.getD_eq_getElem?_getD, List.getD_eq_getElem?_getD, List.getElem?_eq_getElem (by omega), List.getElem?_eq_getElem hk]
        exact this⟩
      have HNX := Lib.hid (show Calls Tryz.prog 67 #[.slice Ar (readyN N).length cr, .int .i64 N.last] wc fun e w' => e = .returned (.tuple #[.int .i64 rf, .int .i64 0]) ∧ ∃ q, w' = wc.drewN q from (Tu.next_any Ar _ cr (lst (readyN N)) N.last wc HRD.out.1 HRD.out.2.1 HRD.out.2.2.2).mono (by
        rintro e w' ⟨⟨_, _, rfl⟩ | ⟨hn, _⟩, q, rfl⟩
        · rw [aft_next hrd, hrf]
          exact ⟨rfl, q, rfl⟩
        · exact absurd ⟨hokr, hl0⟩ hn))
      have HFA := Lib.hid hfa
      have HWR := Lib.hid hwr
      clear hrf hmem ha har hfa hwr hl0 hl60 hokr hrd
      generalize (readyN N).length = rl at *
      go_wp2_with fail
      refine HNX.out.mono ?_
      rintro e w5 ⟨rfl, q5, hw5⟩
      have hf5 : Fr (fun _ => False) wc w5 := by rw [hw5]; exact Fr.of_below (below_drewN (Below.refl _ _) _)
      have HF5 := Lib.hid hf5
      have c75 := hf5.cell c7r (fun h => h)
      have hfz5 : ∀ o, w5.frozen? ⟨p, o, none⟩ = false := fun o => (hf5.frozen hpr (fun h => h)).trans (hfzr o)
      have hp5 := Nat.lt_of_lt_of_le hpr hf5.size
      have HN7 := Lib.hid ((HNR.out.new hf5 (fun _ h => h)).set7 rf)
      have HG7 := Lib.hid (show Gr X M w X M (w5.setCell ⟨p, 7, none⟩ (.int .i64 rf)) from ⟨((HFr.out.trans' hf5).weak (fun _ h => h.elim)).set (.inl HN.out.pM.1) _, fun _ h => h, fun _ h => .inl h, fun _ h => .inl h⟩)
      obtain ⟨mb7, d37, -, hM7, hlk7, -⟩ := HN7.out.look
      obtain ⟨pa, hpa, _, _, _, _, hl7⟩ := hlk7 rf a HFA.out
      subst hpa
      have hl77 := hl7 _ (Fr.refl _ _)
      clear hw5 hf5 hlk7 hl7 c7r hfzr HNX HRD c7 hfz c3 HLK1
      go_wp2_with fail
      generalize hW7 : w5.setCell ⟨p, 7, none⟩ (.int .i64 rf) = W7 at *
      clear hW7 c75 hfz5
      go_loopw [10] (fun v10 wr => ∃ (k : Nat) (Pk : Int → Nat) (Xk Mk : Nat → Prop) (Nk : NdS), k ≤ N.fuel ∧ v10 = .int .i64 (k : Int) ∧ Hid (Gr X M W7 Xk Mk wr) ∧ Hid (NodeAt wr Xk Mk base (T + 5000 * k) p Pk Nk) ∧ Hid (Nk.has rf = true → Pk rf = P rf) ∧ Hid (loopN N.fuel { N with last := rf } rf = loopN (N.fuel - k) Nk rf) ∧ Hid (Nk.fuel = N.fuel)) (fun v10 _ => N.fuel - (intOf v10).toNat)
      case atStart => exact ⟨0, P, X, M, { N with last := rf }, Nat.zero_le _, rfl, Lib.hid (Gr.refl _ _ _), HN7, Lib.hid (fun _ => rfl), Lib.hid rfl, Lib.hid rfl⟩
      case round =>
        obtain ⟨k, Pk, Xk, Mk, Nk, hk, rfl, HGk, HNk, HPk, HLk, HFk⟩ := hrel
        have hfl := HOK.out.fuel
        have f1 := HNk.out.fuelc
        rw [HFk.out] at f1
        have HEND := Lib.hid (fun (w' : World) (X' M' : Nat → Prop) (P' : Int → Nat) (T' : Nat) (hT' : T' ≤ T + 60000000) (hg : Gr X M W7 X' M' w') (hn : NodeAt w' X' M' base T' p P' (loopN N.fuel { N with last := rf } rf)) => show TurnPost X M base (T + 60000000) p P N w (.returned (.tuple #[.int .i64 rf, .int .i64 0])) w' from by
          unfold TurnPost
          rw [HE.out]
          exact ⟨rfl, P', X', M', HG7.out.trans hg, hn.up hT'⟩)
        obtain ⟨mbk, d3k, -, -, hlk1, hlk2⟩ := HNk.out.look
        by_cases hlt : k < N.fuel
        · have hsub : N.fuel - k = (N.fuel - (k + 1)) + 1 := by omega
          have i1 : decide ((k : Int) < (N.fuel : Int)) = true := decide_eq_true (by omega)
          rcases hhas : Nk.has rf with _ | _
          · have hlook := hlk2 rf HWR.out hhas wr (Fr.refl _ _)
            have HLE := Lib.hid (show loopN N.fuel { N with last := rf } rf = Nk by rw [HLk.out, hsub, loopN_succ, if_neg (by rw [hhas]; decide)])
            have heq := eql_nil ⟨P rf, 0, none⟩ wr
            clear hlk1 hlk2 hhas hsub
            go_wp2_with fail
            refine bodyPost_ret (v := .tuple #[.int .i64 rf, .int .i64 0]) (by simp [results, Tryz.results41, go_sem]) rfl ?_
            exact HEND.out _ Xk Mk Pk (T + 5000 * k) (by omega) HGk.out (by rw [HLE.out]; exact HNk.out)
          · obtain ⟨ak, hak⟩ : ∃ a, Nk.find rf = some a := Option.isSome_iff_exists.1 hhas
            obtain ⟨pk, hpk, _, _, _, _, hlk⟩ := hlk1 rf ak hak
            have hlook := hlk wr (Fr.refl _ _)
            have hPe := HPk.out hhas
            rw [hPe] at hpk
            subst hpk
            have HST := Lib.hid (nstep_any HNk.out hak (by have := HT.out; omega))
            have HLS := Lib.hid (show loopN N.fuel { N with last := rf } rf = (if (stepN Nk rf).2 then loopN (N.fuel - (k + 1)) (stepN Nk rf).1 rf else (stepN Nk rf).1) by rw [HLk.out, hsub, loopN_succ, if_pos hhas])
            rw [hPe] at HST
            have HPE := Lib.hid hPe
            have HHK := Lib.hid hhas
            have HFS := Lib.hid ((stepN_keep Nk rf).fuel.trans HFk.out)
            have heq := eql_same ⟨P rf, 0, none⟩ wr
            clear hlk1 hlk2 hhas hsub hak hlk hPe
            generalize hS : stepN Nk rf = S at *
            obtain ⟨N', b⟩ := S
            dsimp only at HST HLS HFS
            clear hS
            go_wp2_with fail
            refine HST.out.mono ?_
            rintro e w6 ⟨rfl, P6, hP6, X6, M6, hg6, hn6⟩
            have HG6 := Lib.hid (HGk.out.trans hg6)
            have HN6 := Lib.hid hn6
            have HP6 := Lib.hid (hP6 rf HHK.out)
            clear hP6 hg6 hn6
            rcases b with _ | _
            · go_wp2_with fail
              refine bodyPost_ret (v := .tuple #[.int .i64 rf, .int .i64 0]) (by simp [results, Tryz.results41, go_sem]) rfl ?_
              exact HEND.out _ X6 M6 P6 (T + 5000 * k + 5000) (by omega) HG6.out (by rw [HLS.out]; exact HN6.out)
            · go_wp2_with fail
              go_roundw
              case rel => exact ⟨k + 1, P6, X6, M6, N', by omega, by go_num, HG6, Lib.hid (HN6.out.up (by omega)), Lib.hid (fun _ => HP6.out.trans HPE.out), Lib.hid HLS.out, HFS⟩
              case measure => simp [intOf]; omega
        · obtain rfl : k = N.fuel := by omega
          have i1 : decide (((N.fuel : Nat) : Int) < ((N.fuel : Nat) : Int)) = false := decide_eq_false (by omega)
          have HLE := Lib.hid (show loopN N.fuel { N with last := rf } rf = Nk by rw [HLk.out, Nat.sub_self]; rfl)
          clear hlk1 hlk2
          go_wp2_with fail
          refine bodyPost_ret (v := .tuple #[.int .i64 rf, .int .i64 0]) (by simp [results, Tryz.results41, go_sem]) rfl ?_
          exact HEND.out _ Xk Mk Pk (T + 5000 * N.fuel) (by omega) HGk.out (by rw [HLE.out]; exact HNk.out)
end Go.Proofs.YthgbcgphkddmgaaGreat
namespace Go.Proofs.YthgbcgphkddmgaaGreat
open Go.RowKit Go.Maps
set_option linter.unusedVariables false
set_option linter.unusedSimpArgs false
theorem has_ins {N : NdS} {a : ActS} (x : Int) : ({ N with acts := insA a N.acts } : NdS).has x = (if x = a.ref then true else N.has x) := by
  by_cases e : x = a.ref
  · rw [if_pos e]
    exact has_iff.2 ⟨a, mem_insA.2 (.inl rfl), e.symm⟩
  · rw [if_neg e, Bool.eq_iff_iff, has_iff, has_iff]
    constructor
    · rintro ⟨b, hb, h⟩
      rcases mem_insA.1 hb with rfl | hb
      · exact absurd h.symm e
      · exact ⟨b, hb, h⟩
    · rintro ⟨b, hb, h⟩
      exact ⟨b, mem_insA.2 (.inr hb), h⟩
theorem no_ref {N : NdS} {r : Int} (h : N.has r = false) : ∀ b, b ∈ N.acts → b.ref ≠ r := fun b hb e => by
  have := has_iff.2 ⟨b, hb, e⟩
  rw [h] at this
  cases this
theorem NodeG.ins {w w' : World} {X M MAa : Nat → Prop} {base T p mb hb : Nat} {P : Int → Nat} {MA : Int → Nat → Prop} {ob sb : Option Nat} {N : NdS} {a : ActS} {pa b rb kb : Nat} {ib : Option Nat} (h : NodeG w X base T p mb hb P MA ob sb N) (hm : Mine M p mb hb MA ob sb N) (hMX : ∀ k, M k → X k ∧ base ≤ k) (hA : ActG w X base T MAa pa b rb kb ib a) (hn : ∀ k, MAa k → ¬ M k) (hno : N.has a.ref = false) (hf : Fr (fun k => k = mb) w w')
    (ho : OwnM w' mb (N.acts.length + 1) (fun x => if x = a.ref then some (.pointer (some ⟨pa, 0, none⟩)) else if N.has x then some (.pointer (some ⟨P x, 0, none⟩)) else none)) (hT : N.out.length + 201 * (N.acts.length + 1) ≤ T) :
    NodeG w' X base T p mb hb (fun r => if r = a.ref then pa else P r) (fun r => if r = a.ref then MAa else MA r) ob sb { N with acts := insA a N.acts } := by
  have hS : ∀ k, k = mb → X k ∧ base ≤ k := fun k hk => hk ▸ hMX mb hm.mb
  obtain ⟨a1, a2, a3, a4, a5⟩ := h.ap
  have hp : ¬ p = mb := a1
  obtain ⟨A2, c2, s1, s2⟩ := h.c2
  obtain ⟨v4, r1, r2⟩ := h.c4
  obtain ⟨v8, C, o1, o2⟩ := h.c8
  obtain ⟨v9, q1, q2, q3⟩ := h.c9
  obtain ⟨n, k1, k2⟩ := h.hm
  have hl := h.lt
  have hnr := no_ref hno
  refine ⟨hf.cell h.c0 hp, hf.cell h.c1 hp, ⟨A2, c2, hf.cell s1 hp, s2.fr hf (fun k hk => (hS k hk).2)⟩, hf.cell h.c3 hp, ⟨v4, hf.cell r1 hp, r2.fr hf (fun k hk => (hS k hk).1) (fun k hk => .inl hk)⟩, hf.cell h.c5 hp, hf.cell h.c6 hp, hf.cell h.c7 hp, ⟨v8, C, hf.cell o1 hp, o2.fr hf (fun k hk => (hS k hk).1) (fun k hk => .inl hk) (fun k hk hs => (a4 k hk).2.1 hs)⟩, ⟨v9, hf.cell q1 hp, hf.row q2 (fun k hk hs => (a5 k (q3.symm.trans hk)).2.1 hs), q3⟩,
    fun o => (hf.frozen hl.1 hp).trans (h.fz o), ?_, ⟨n, k1.fr hf (fun e => a3 e.symm), k2⟩, fun c hc => ?_, fun c d hc hd hne k hk => ?_, fun c hc k hk => ?_, h.ap, ?_⟩
  · show OwnM w' mb (insA a N.acts).length _
    rw [len_insA]
    refine ho.congr (fun x _ => ?_)
    rw [has_ins]
    by_cases e : x = a.ref
    · rw [if_pos e, if_pos e, if_pos e]; rfl
    · rw [if_neg e, if_neg e, if_neg e]
  · rcases mem_insA.1 hc with rfl | hc
    · rw [if_pos rfl, if_pos rfl]
      exact ⟨b, rb, kb, ib, hA.fr hf (fun k hk => (hS k hk).1) (fun k hk => .inl hk) (fun k hk => (hS k hk).2) (Nat.le_refl _) (fun k hk hs => hn k hk (hs ▸ hm.mb))⟩
    · rw [if_neg (hnr c hc), if_neg (hnr c hc)]
      obtain ⟨b1, rb1, kb1, ib1, hh⟩ := h.acts c hc
      exact ⟨b1, rb1, kb1, ib1, hh.fr hf (fun k hk => (hS k hk).1) (fun k hk => .inl hk) (fun k hk => (hS k hk).2) (Nat.le_refl _) (fun k hk hs => (h.own c hc k hk).2.1 hs)⟩
  · intro hk2
    rcases mem_insA.1 hc with e1 | h1
    · rw [e1, if_pos rfl] at hk
      rcases mem_insA.1 hd with e2 | h2
      · exact hne (by rw [e1, e2])
      · rw [if_neg (hnr d h2)] at hk2
        exact hn k hk (hm.act d h2 k hk2)
    · rw [if_neg (hnr c h1)] at hk
      rcases mem_insA.1 hd with e2 | h2
      · rw [e2, if_pos rfl] at hk2
        exact hn k hk2 (hm.act c h1 k hk)
      · rw [if_neg (hnr d h2)] at hk2
        exact h.disj c d h1 h2 hne k hk hk2
  · rcases mem_insA.1 hc with rfl | hc
    · rw [if_pos rfl] at hk
      have hnk := hn k hk
      exact ⟨fun e => hnk (e ▸ hm.p), fun e => hnk (e ▸ hm.mb), fun e => hnk (e ▸ hm.hb), fun e => hnk (hm.ob k e), fun e => hnk (hm.sb k e)⟩
    · rw [if_neg (hnr c hc)] at hk
      exact h.own c hc k hk
  · show N.out.length + 201 * (insA a N.acts).length ≤ T ∧ N.said.length ≤ T
    rw [len_insA]
    exact ⟨hT, h.lim.2⟩
theorem NdOk.ins {N : NdS} (h : NdOk N) {a : ActS} (ha : ActOk a) (hno : N.has a.ref = false) (hlen : N.acts.length < 60) : NdOk { N with acts := insA a N.acts } :=
  { h with
    len := by show (insA a N.acts).length ≤ 60; rw [len_insA]; omega
    srt := srt_insA h.srt (no_ref hno)
    act := fun b hb => by
      rcases mem_insA.1 hb with rfl | hb
      · exact ha
      · exact h.act b hb }
set_option maxRecDepth 100000 in
theorem NodeAt.ins {w : World} {X M MAa : Nat → Prop} {base T p : Nat} {P : Int → Nat} {N : NdS} {a : ActS} {pa b rb kb : Nat} {ib : Option Nat} (h : NodeAt w X M base T p P N) (hA : ActG w X base T MAa pa b rb kb ib a) (hok : ActOk a) (hX : ∀ k, MAa k → X k ∧ base ≤ k) (hn : ∀ k, MAa k → ¬ M k) (hno : N.has a.ref = false) (hlen : N.acts.length < 60) (hT : pot N + 201 ≤ T) :
    ∃ mb, w.cell? ⟨p, 3, none⟩ = some (.map (some mb)) ∧ ∃ w', (Instr.mapUpdate 129 (.map (some mb)) (.int .i64 a.ref) (.pointer (some ⟨pa, 0, none⟩))).run Tryz.prog w = .ok () w' ∧ Fr (fun k => k = mb) w w' ∧ M mb ∧ pa ≠ mb ∧ mb ≠ p ∧ NodeAt w' X (fun k => M k ∨ MAa k) base T p (fun r => if r = a.ref then pa else P r) { N with acts := insA a N.acts } := by
  obtain ⟨h1, h2, h3, mb, hb, MA, ob, sb, h4, h5⟩ := h
  refine ⟨mb, h4.c3, ?_⟩
  obtain ⟨w', hrun, ho, hg⟩ := OwnM.store und_actors h4.am (by have := h1.len; unfold maxLen; omega) a.ref (.pointer (some ⟨pa, 0, none⟩)) hok.ref
  have hf : Fr (fun k => k = mb) w w' := Fr.of_grown hg (fun k hk => .inl (by injection hk with hk; exact hk.symm))
  have hcond : ¬ (if N.has a.ref = true then some (Value.pointer (some ⟨P a.ref, 0, none⟩)) else none : Option Value).isSome = true := by rw [hno]; simp
  rw [if_neg hcond] at ho
  have hnb : pa ≠ mb := fun e => hn pa hA.mine.1 (e ▸ h5.mb)
  refine ⟨w', hrun, hf, h5.mb, hnb, fun e => h4.ap.1 e.symm, h1.ins hok hno hlen, fun k hk => Nat.lt_of_lt_of_le (h2 k hk) hf.size, fun k hk => by rcases hk with hk | hk; exact h3 k hk; exact hX k hk, mb, hb, _, ob, sb, h4.ins h5 h3 hA hn hno hf ho (by unfold pot at hT; omega), ⟨.inl h5.p, .inl h5.mb, .inl h5.hb, fun k hk => .inl (h5.ob k hk), fun k hk => .inl (h5.sb k hk), fun c hc k hk => ?_⟩⟩
  rcases mem_insA.1 hc with rfl | hc
  · rw [if_pos rfl] at hk
    exact .inr hk
  · rw [if_neg (no_ref hno c hc)] at hk
    exact .inl (h5.act c hc k hk)
set_option maxRecDepth 100000 in
set_option maxHeartbeats 4000000 in
theorem nadd_any {w : World} {X M MAa : Nat → Prop} {base T p : Nat} {P : Int → Nat} {N : NdS} {a : ActS} {pa b rb kb : Nat} {ib : Option Nat} (h : NodeAt w X M base T p P N) (hA : ActG w X base T MAa pa b rb kb ib a) (hok : ActOk a) (hX : ∀ k, MAa k → X k ∧ base ≤ k) (hn : ∀ k, MAa k → ¬ M k) (hno : N.has a.ref = false) (hlen : N.acts.length < 60) (hT : pot N + 201 ≤ T) :
    Calls Tryz.prog 65 #[.pointer (some ⟨p, 0, none⟩), .pointer (some ⟨pa, 0, none⟩)] w fun e w' => e = .returned (.tuple #[]) ∧ ∃ X' M', Gr X (fun k => M k ∨ MAa k) w X' M' w' ∧ NodeAt w' X' M' base T p (fun r => if r = a.ref then pa else P r) { N with acts := insA a N.acts, rows := addR N.rows a.ref } := by
  have hdr : Fr (fun _ => False) w w.drew := (Fr.refl _ w).drew
  obtain ⟨mb, c3, w1, hrun, hf1, hmb, hpam, hmp, hN1⟩ := (h.new hdr (fun _ h => h)).ins (hA.fr (X' := X) hdr (fun _ h => h.elim) (fun k hk => .inl hk) (fun _ h => h.elim) (Nat.le_refl _) (fun _ _ h => h)) hok hX hn hno hlen hT
  have c3' : w.cell? ⟨p, 3, none⟩ = some (.map (some mb)) := c3
  have a1 := hA.a1
  have d1 : w1.cell? ⟨pa, 1, none⟩ = some (.int .i64 a.ref) := hf1.cell (show w.drew.cell? ⟨pa, 1, none⟩ = _ from a1) hpam
  obtain ⟨A, c, c4, hr⟩ := hN1.rows
  have hf2 : Fr (fun _ => False) w1 w1.drew := (Fr.refl _ w1).drew
  have HR := Lib.hid (hr.new hf2)
  have HNW := Lib.hid (hN1.new hf2 (fun _ h => h))
  have hokr := h.ok.rows
  have HOK := Lib.hid (hokr.add hok.ref)
  have HOK0 := Lib.hid hokr
  have HF1 := Lib.hid (show Fr M w w1 from (hdr.weak (fun _ h => h.elim)).trans' (hf1.weak (fun k hk => hk ▸ hmb)))
  clear h hA hok hX hn hno hlen hT hdr hf1 hN1 hr hf2 hokr c3
  go_enter Tryz.func65, Tryz.ntmps65
  go_wp2_with fail
  go_region
  all_goals
    go_wp2_with fail
    go_region_with (first
      | (go_at_call 113; refine (ladd_any X _ N.rows a.ref w1.drew HR.out HOK0.out.ok HNW.out.xlt).mono ?_; rintro e w2 ⟨A1, n1, c1, y, rfl, hb1, hl1⟩; have HL1 := Lib.hid hl1; have HB1 := Lib.hid hb1; clear hl1 hb1)
      | (go_at_call 94; refine (change_nd (HNW.out.below HB1.out) HL1.out HOK.out).mono ?_; rintro e w3 ⟨rfl, X', M', hg, hn⟩; have HG := Lib.hid hg; have HN2 := Lib.hid hn; clear hg hn))
    all_goals
      go_wp2_with fail
      refine bodyPost_end (results_none rfl _ _ _) rfl ⟨rfl, X', M', ?_, HN2.out⟩
      refine Gr.trans (X1 := X) (M1 := fun k => M k ∨ MAa k) (w1 := w1) ⟨HF1.out.weak (fun k hk => .inl hk), fun _ h => h, fun _ h => .inl h, fun _ h => .inl h⟩ ?_
      exact (Gr.new (((Fr.refl _ w1).drew).trans' (Fr.of_below HB1.out))).trans HG.out
end Go.Proofs.YthgbcgphkddmgaaGreat
namespace Go.Proofs.YthgbcgphkddmgaaGreat
open Go.RowKit
set_option linter.unusedVariables false
set_option linter.unusedSimpArgs false
theorem makeN_ok {nm : ByteArray} {st : List (Int × Int)} {r : RunS} (h : makeN nm st = some r) : r.st = st ∧ r.sent = 0 ∧ r.waiting = false ∧ r.has = false ∧ r.num = 0 ∧ ((nm = sinkS ∧ r.pump = false) ∨ (nm = pumpS ∧ st.length = 3 ∧ r.pump = true)) := by
  unfold makeN at h
  split at h
  · rename_i e
    injection h with h
    subst h
    exact ⟨rfl, rfl, rfl, rfl, rfl, .inl ⟨e, rfl⟩⟩
  · split at h
    · rename_i e
      injection h with h
      subst h
      exact ⟨rfl, rfl, rfl, rfl, rfl, .inr ⟨e.1, e.2, rfl⟩⟩
    · cases h
/-- what Make made: a runner at the last block, its state in another new one -/
def MakePost (st : List (Int × Int)) (r : RunS) (w : World) (e : Ending) (w' : World) : Prop :=
  ∃ rb A c, e = .returned (.tuple #[.iface 351 (.pointer (some ⟨rb, 0, none⟩)), .int .i64 0]) ∧ w.heap.size ≤ rb ∧ rb < w'.heap.size ∧ Below w.heap.size w w' ∧ StAt w' (fun k => w.heap.size ≤ k ∧ k ≠ rb) A c st ∧ RunAt w' rb A c r
theorem made_st {w w1 : World} {st : List (Int × Int)} {v : Value} {n : Nat} (hn : st.length = n) (h : w1.ownsRow w.heap.size 36 4 v n (flatC (fun i => stC st i) n)) : ∃ A c, v = .slice A st.length c ∧ StAt w1 (fun k => w.heap.size ≤ k) A c st := by
  subst hn
  obtain ⟨A, c, rfl, h1, h2, _⟩ := own_any h
  refine ⟨A, c, rfl, h1, h2, fun h0 => ?_⟩
  obtain ⟨g, cap, hv, hb, hgl, _⟩ := own_form h h0
  injection hv with e1 _ e3
  subst e1 e3
  exact ⟨g, 0, rfl, hgl, hb, fun i hi j u hu => by
    have hj : j < 4 := (List.getElem?_eq_some_iff.1 hu).1
    rw [Nat.zero_add, own_cellC h (fun _ => rfl) hi hj]
    exact hu⟩
theorem made_run {w w1 : World} {st : List (Int × Int)} {A : Option Addr} {c : Nat} (p : Bool) (hb : Below w.heap.size w w1) (h : StAt w1 (fun k => w.heap.size ≤ k) A c st) :
    MakePost st ⟨p, st, 0, false, false, 0⟩ w (.returned (.tuple #[.iface 351 (.pointer (some ⟨w1.heap.size, 0, none⟩)), .int .i64 0])) (w1.alloc (.cells #[.bool p, .slice A st.length c, .int .i64 0, .bool false, .bool false, .int .i64 0] 353)) := by
  have hc : ∀ j u, ([.bool p, .slice A st.length c, .int .i64 0, .bool false, .bool false, .int .i64 0] : List Value)[j]? = some u → (w1.alloc (.cells #[.bool p, .slice A st.length c, .int .i64 0, .bool false, .bool false, .int .i64 0] 353)).cell? ⟨w1.heap.size, j, none⟩ = some u := fun j u hj => by
    have := cell_newL w1 [.bool p, .slice A st.length c, .int .i64 0, .bool false, .bool false, .int .i64 0] 353 _ rfl j u hj
    rw [Addr.add_lit, Nat.zero_add] at this
    exact this
  exact ⟨_, A, c, rfl, hb.size, by simp, hb.alloc hb.size _, h.fr (D := fun _ => False) ((Fr.refl _ _).alloc _) (fun _ _ h => h) (fun k hk hlt => ⟨hk, by omega⟩), ⟨hc 0 _ rfl, hc 1 _ rfl, hc 2 _ rfl, hc 3 _ rfl, hc 4 _ rfl, hc 5 _ rfl, fun o => by simp [go_sem]⟩⟩
theorem MakePost.back {w W w' : World} {st : List (Int × Int)} {r : RunS} {e : Ending} (h : MakePost st r W e w') (hf : Below w.heap.size w W) : MakePost st r w e w' := by
  obtain ⟨rb, A, c, h1, h2, h3, h4, h5, h6⟩ := h
  have hs := hf.size
  exact ⟨rb, A, c, h1, by omega, h3, hf.trans (h4.mono hs), h5.fr (D := fun _ => False) (Fr.refl _ _) (fun _ _ h => h) (fun k hk _ => ⟨by omega, hk.2⟩), h6⟩
theorem rd_st {w : World} {S : Nat → Prop} {A : Option Addr} {c : Nat} {st : List (Int × Int)} (h : StAt w S A c st) : Rd w 4 (fun i => stC st i) A st.length := fun h0 => by
  obtain ⟨sb, so, e, hb, _, hc⟩ := h.2.2 h0
  exact ⟨sb, so, e, hb, hc⟩
theorem st_none {w : World} {S : Nat → Prop} {A : Option Addr} {c : Nat} {st : List (Int × Int)} (h : StAt w S A c st) : A = none → st.length = 0 := fun e => by
  by_cases h0 : 0 < st.length
  · obtain ⟨sb, so, e2, _⟩ := h.2.2 h0
    rw [e] at e2
    cases e2
  · omega
set_option maxRecDepth 100000 in
set_option maxHeartbeats 4000000 in
theorem make_any (nm : ByteArray) (st : List (Int × Int)) (r : RunS) (S : Nat → Prop) (A : Option Addr) (c : Nat) (self : Int) (w : World) (h : makeN nm st = some r) (hs : StAt w S A c st) (h10 : st.length ≤ 10) :
    Calls Tryz.prog 252 #[.agg #[], .string nm, .slice A st.length c, .int .i64 self] w (MakePost st r w) := by
  have HCL := Lib.hid (fun (W : World) (hW : Fr (fun _ => False) w W) => cloneV A st.length c (fun i => stC st i) W (rd_st (hs.fr (S' := S) hW (fun _ _ h => h) (fun _ hk _ => hk))) (fun _ => rfl) (fun k u hu => by
      simp [stC] at hu
      rcases hu with rfl | rfl | rfl | rfl <;> rfl) (st_none hs) (by omega))
  unfold makeN at h
  split at h
  · rename_i e
    injection h with h
    subst h e
    clear hs
    unfold sinkS
    go_enter Tryz.func252, Tryz.ntmps252
    go_wp2_with fail
    refine (HCL.out _ (by (repeat' first | with_reducible exact Fr.refl _ _ | (with_reducible refine Fr.setEq ?_ _) | (with_reducible refine Fr.setNew ?_ _) | with_reducible refine Fr.alloc ?_ _ | with_reducible refine Fr.drewN ?_ _ | with_reducible refine Fr.drew ?_))).mono ?_
    rintro e w1 ⟨v, rfl, hown, hb1⟩
    obtain ⟨A1, c1, rfl, hst⟩ := made_st rfl hown
    have HST := Lib.hid hst
    have HB := Lib.hid hb1
    clear hown hst hb1 HCL
    go_wp2_with fail
    have hm := (made_run false HB.out HST.out).back (w := w) ((Below.refl _ _).alloc (Nat.le_refl _) _)
    exact bodyPost_ret (results_two Tryz.results252 _ _) rfl hm
  · split at h
    · rename_i e
      injection h with h
      obtain ⟨e1, e3⟩ := e
      subst h e1
      unfold pumpS
      have HL := Lib.hid e3
      have HC3 := HCL.out
      rw [e3] at HC3
      have HCL := Lib.hid HC3
      clear HC3
      have e4 : ((st.length : Int) != 3) = false := by rw [e3]; rfl
      have e5 : ((st.length : Int) == 3) = true := by rw [e3]; rfl
      have e6 : decide ((st.length : Int) = 3) = true := decide_eq_true (by omega)
      clear hs
      go_enter Tryz.func252, Tryz.ntmps252
      go_wp2_with fail
      refine (HCL.out _ (by (repeat' first | with_reducible exact Fr.refl _ _ | (with_reducible refine Fr.setEq ?_ _) | (with_reducible refine Fr.setNew ?_ _) | with_reducible refine Fr.alloc ?_ _ | with_reducible refine Fr.drewN ?_ _ | with_reducible refine Fr.drew ?_))).mono ?_
      rintro e w1 ⟨v, rfl, hown, hb1⟩
      obtain ⟨A1, c1, rfl, hst⟩ := made_st HL.out hown
      have HST := Lib.hid hst
      have HB := Lib.hid hb1
      clear hown hst hb1 HCL
      go_wp2_with fail
      have hm := (made_run true HB.out HST.out).back (w := w) ((Below.refl _ _).alloc (Nat.le_refl _) _)
      rw [HL.out] at hm
      exact bodyPost_ret (results_two Tryz.results252 _ _) rfl hm
    · cases h
theorem meth_make (v : Value) : ∀ w, Sem.run Tryz.prog (method 455 30 v "Make") w = .ok (252, v) w := fun _ => by kernel_rfl
/-- a diary begun with a state: it lies in new blocks -/
def DnewPost (nm : ByteArray) (r : RunS) (base T : Nat) (w : World) (e : Ending) (w' : World) : Prop :=
  ∃ b rb, e = .returned (.tuple #[.pointer (some ⟨b, 0, none⟩), .int .i64 0]) ∧ w.heap.size ≤ b ∧ b < w'.heap.size ∧ w.heap.size ≤ rb ∧ rb < w'.heap.size ∧ Below w.heap.size w w' ∧ ∀ X : Nat → Prop, (∀ k, X k → k < w.heap.size ∨ k = b ∨ k = rb) → DiaAt w' X base T b rb none (newD nm r)
set_option maxRecDepth 100000 in
set_option maxHeartbeats 4000000 in
theorem dnew_any (base T : Nat) (nm : ByteArray) (st : List (Int × Int)) (r : RunS) (S : Nat → Prop) (A : Option Addr) (c : Nat) (self : Int) (w : World) (h : makeN nm st = some r) (hr : RunOk r) (hs : StAt w S A c st) (h10 : st.length ≤ 10) (hb : base ≤ w.heap.size) :
    Calls Tryz.prog 63 #[.iface 30 (.agg #[]), .string nm, .slice A st.length c, .int .i64 self] w (DnewPost nm r base T w) := by
  have HM := Lib.hid (make_any nm st r S A c self w h hs h10)
  have hm := meth_make (.agg #[])
  have HS := Lib.hid hs
  have HR := Lib.hid hr
  have HE := Lib.hid (makeN_ok h)
  clear h hs hr
  go_enter Tryz.func63, Tryz.ntmps63
  go_wp2_with fail
  refine HM.out.mono ?_
  rintro e w1 ⟨rb, A1, c1, rfl, hr1, hr2, hb1, hst, hrun⟩
  have HST := Lib.hid hst
  have HRUN := Lib.hid hrun
  have HB1 := Lib.hid hb1
  have HLT := Lib.hid (And.intro hr1 hr2)
  have hv : RdV w1 (fun _ => True) A st.length (fun i => vLeaf (stN st i).1 (stN st i).2) := fun h0 => by
    obtain ⟨b, off, e, hb, _, hc⟩ := HS.out.2.2 h0
    exact ⟨b, off, e, Nat.lt_of_lt_of_le hb HB1.out.size, trivial, fun i => stC st i, fun i hi => ⟨leaf_V w1 _ _ _, fun j u hu => (show Fr (fun _ => False) w w1 from Fr.of_below HB1.out).cell (hc i hi j u hu) (fun h => h)⟩⟩
  have HV := Lib.hid (values_any st.length c A _ _ w1 (by omega) hv (fun i _ => by simp [vLeaf, VT.many, sumTo]))
  clear hst hrun hb1 hr1 hr2 HM hv
  go_wp2_with fail
  refine HV.out.mono ?_
  rintro e w2 ⟨v2, C2, rfl, ho2, hl2, hv2, hb2⟩
  obtain ⟨A2, c2, rfl, q1, q2, q3⟩ := each_rdv ho2 hl2 hv2
  have HB2 := Lib.hid hb2
  clear ho2 hl2 hv2 q3 HV hb2
  go_wp2_with fail
  obtain ⟨r1, r2⟩ := HLT.out
  have hsz1 := HB1.out.size
  have hsz2 := HB2.out.size
  have hf2 : Fr (fun _ => False) w1 (w2.alloc (.cells #[.iface 351 (.pointer (some ⟨rb, 0, none⟩)), .string nm, .slice A2 st.length c2, .slice none 0 0, .int .i64 0, .int .i64 0, .string ⟨#[]⟩, .int .i64 0, .int .i64 0, .string ⟨#[]⟩, .slice none 0 0, .slice none 0 0] 208)) := (Fr.of_below HB2.out).alloc _
  have hd : ∀ j u, ([.iface 351 (.pointer (some ⟨rb, 0, none⟩)), .string nm, .slice A2 st.length c2, .slice none 0 0, .int .i64 0, .int .i64 0, .string ⟨#[]⟩, .int .i64 0, .int .i64 0, .string ⟨#[]⟩, .slice none 0 0, .slice none 0 0] : List Value)[j]? = some u → (w2.alloc (.cells #[.iface 351 (.pointer (some ⟨rb, 0, none⟩)), .string nm, .slice A2 st.length c2, .slice none 0 0, .int .i64 0, .int .i64 0, .string ⟨#[]⟩, .int .i64 0, .int .i64 0, .string ⟨#[]⟩, .slice none 0 0, .slice none 0 0] 208)).cell? ⟨w2.heap.size, j, none⟩ = some u := fun j u hj => by
    have := cell_newL w2 _ 208 w2.heap.size rfl j u hj
    rw [Addr.add_lit, Nat.zero_add] at this
    exact this
  refine bodyPost_ret (results_two Tryz.results63 _ _) rfl ⟨w2.heap.size, rb, rfl, by omega, by simp, r1, by simp; omega, (HB1.out.trans (HB2.out.mono hsz1)).alloc (by omega) _, fun X hX => ?_⟩
  have hst2 := HST.out.fr (S' := fun k => ¬ X k ∧ k ≠ w2.heap.size ∧ k ≠ rb ∧ (none : Option Nat) ≠ some k) hf2 (fun _ _ h => h) (fun k hk hlt => ⟨fun hx => by rcases hX k hx with h | h | h; omega; omega; exact hk.2 h, by omega, hk.2, fun e => by cases e⟩)
  have hst3 := hst2
  have hrst := HE.out.1
  exact {
    run := ⟨A1, c1, by show StAt _ _ _ _ r.st; rw [hrst]; exact hst2, HRUN.out.fr hf2 (fun h => h)⟩
    c0 := hd 0 _ rfl
    c1 := hd 1 _ rfl
    c2 := ⟨A2, st.length, c2, hd 2 _ rfl, fun e => absurd e (show ¬ (0 : Int) = 7 by decide)⟩
    c3 := ⟨none, 0, 0, [], hd 3 _ rfl, World.ownsRow_nil _ _ _ _, Nat.zero_le _, rfl, fun e => absurd e (show ¬ (0 : Int) = 7 by decide)⟩
    c4 := hd 4 _ rfl
    c5 := hd 5 _ rfl
    c6 := hd 6 _ rfl
    c7 := hd 7 _ rfl
    c8 := hd 8 _ rfl
    c9 := hd 9 _ rfl
    c10 := hd 10 _ rfl
    c11 := hd 11 _ rfl
    fz := fun o => by simp [go_sem]
    nr := by omega
    ni := fun k hk => by cases hk
    lb := ⟨by omega, by omega⟩
    wt := fun e => absurd e (show ¬ (0 : Int) = 7 by decide)
    pl := HR.out }
end Go.Proofs.YthgbcgphkddmgaaGreat
