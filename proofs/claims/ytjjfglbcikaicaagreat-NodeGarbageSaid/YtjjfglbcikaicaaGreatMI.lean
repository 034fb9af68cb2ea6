/- What sends, ends and steps leave of a node, in plain words. A range over a map of numbers: what was visited. slices.Sort over a row of ints of the call's own. The references of all actors. Contracts of package turn: Check, after, Next; the closed fact of the laws. One turn of a node. What a node tells: Said, Out, Spawned; Home. Nodes: New, Drop, Box. The closed fact of the laws of a node. A letter from another node. Time goes on at a node. -/
import Derived.Test.YtjjfglbcikaicaaGreatMS
import Derived.Test.YtjjfglbcikaicaaGreatMD
import Derived.Test.YtjjfglbcikaicaaGreatInts
import Derived.Test.YtjjfglbcikaicaaGreatSort
import Derived.Sort.OwnSortedInts
import Derived.Test.YtjjfglbcikaicaaGreatMG
import Derived.IntWalk
import Derived.Deep.CutBlock
import Derived.LaidEqlPtr
import Derived.Test.YtjjfglbcikaicaaGreatMF
import Derived.Deep.QuietTactic
import Derived.Deep.RegionLaw
namespace Go.Proofs.YtjjfglbcikaicaaGreat
open Go.RowKit
set_option linter.unusedVariables false
set_option linter.unusedSimpArgs false
/-- all but actors, rows and letters are as they were -/
structure KeepS (N N' : NdS) : Prop where
  id : N'.id = N.id
  fuel : N'.fuel = N.fuel
  scr : N'.scr = N.scr
  homes : N'.homes = N.homes
  spawned : N'.spawned = N.spawned
  last : N'.last = N.last
  said : N'.said = N.said
theorem KeepS.refl (N : NdS) : KeepS N N := ⟨rfl, rfl, rfl, rfl, rfl, rfl, rfl⟩
theorem KeepS.trans {N N1 N2 : NdS} (h : KeepS N N1) (k : KeepS N1 N2) : KeepS N N2 :=
  ⟨k.id.trans h.id, k.fuel.trans h.fuel, k.scr.trans h.scr, k.homes.trans h.homes, k.spawned.trans h.spawned, k.last.trans h.last, k.said.trans h.said⟩
section
variable {rem : NdS → Int → ByteArray → NdS}
theorem deliverW_keep (hr : ∀ M r t, KeepS M (rem M r t)) (N : NdS) (x : LT) : KeepS N (deliverW rem N x) := by
  unfold deliverW
  split
  · split
    · exact KeepS.refl N
    · exact ⟨rfl, rfl, rfl, rfl, rfl, rfl, rfl⟩
  · split
    · exact ⟨rfl, rfl, rfl, rfl, rfl, rfl, rfl⟩
    · split
      · exact ⟨rfl, rfl, rfl, rfl, rfl, rfl, rfl⟩
      · split
        · split
          · exact hr _ _ _
          · exact KeepS.refl N
        · exact KeepS.refl N
theorem send1W_keep (hr : ∀ M r t, KeepS M (rem M r t)) (N : NdS) (x : LT) : KeepS N (send1W rem N x) := by
  unfold send1W
  split
  · exact deliverW_keep hr N x
  · split
    · exact ⟨rfl, rfl, rfl, rfl, rfl, rfl, rfl⟩
    · exact KeepS.refl N
theorem replyW_keep (hr : ∀ M r t, KeepS M (rem M r t)) (N : NdS) (x : LT) : KeepS N (replyW rem N x) := by
  unfold replyW
  split
  · exact KeepS.refl N
  · exact send1W_keep hr N _
theorem sendW_keep (hr : ∀ M r t, KeepS M (rem M r t)) (N : NdS) (x : LT) : KeepS N (sendW rem N x) := by
  unfold sendW
  split
  · exact deliverW_keep hr N x
  · split
    · exact ⟨rfl, rfl, rfl, rfl, rfl, rfl, rfl⟩
    · exact replyW_keep hr N x
theorem foldl_keep (hr : ∀ M r t, KeepS M (rem M r t)) : ∀ (l : List LT) (N : NdS), KeepS N (l.foldl (sendW rem) N)
  | [], N => KeepS.refl N
  | x :: l, N => (sendW_keep hr N x).trans (foldl_keep hr l _)
end
theorem remN_keep : ∀ (k : Nat) (N : NdS) (ref : Int) (failed : Bool) (text : ByteArray), KeepS N (remN k N ref failed text)
  | 0, N, _, _, _ => KeepS.refl N
  | k + 1, N, ref, failed, text => by
    have h : KeepS N ({ N.delA ref with rows := goneL N.rows ref } : NdS) := ⟨rfl, rfl, rfl, rfl, rfl, rfl, rfl⟩
    exact h.trans (foldl_keep (fun M r t => remN_keep k M r true t) _ _)
theorem sendN_keep (N : NdS) (x : LT) : KeepS N (sendN N x) := sendW_keep (fun M r t => remN_keep 60 M r true t) N x
theorem replyN_keep (N : NdS) (x : LT) : KeepS N (replyN N x) := replyW_keep (fun M r t => remN_keep 60 M r true t) N x
theorem deliverN_keep (N : NdS) (x : LT) : KeepS N (deliverN N x) := deliverW_keep (fun M r t => remN_keep 60 M r true t) N x
theorem putN_keep (N : NdS) (x : LT) : KeepS N (putN N x).1 := by
  unfold putN
  split
  · exact KeepS.refl N
  · split
    · exact replyN_keep N x
    · split
      · exact KeepS.refl N
      · exact deliverN_keep N x
/-- a spawn or a step leaves the frame of a node -/
structure KeepF (N N' : NdS) : Prop where
  id : N'.id = N.id
  fuel : N'.fuel = N.fuel
  scr : N'.scr = N.scr
  homes : N'.homes = N.homes
  last : N'.last = N.last
  spawned : N.spawned ≤ N'.spawned
theorem KeepS.f {N N' : NdS} (h : KeepS N N') : KeepF N N' := ⟨h.id, h.fuel, h.scr, h.homes, h.last, Nat.le_of_eq h.spawned.symm⟩
theorem KeepF.refl (N : NdS) : KeepF N N := ⟨rfl, rfl, rfl, rfl, rfl, Nat.le_refl _⟩
theorem KeepF.trans {N N1 N2 : NdS} (h : KeepF N N1) (k : KeepF N1 N2) : KeepF N N2 :=
  ⟨k.id.trans h.id, k.fuel.trans h.fuel, k.scr.trans h.scr, k.homes.trans h.homes, k.last.trans h.last, Nat.le_trans h.spawned k.spawned⟩
theorem spawnN_keep (N : NdS) (nm : ByteArray) : KeepF N (spawnN N nm).1 := by
  unfold spawnN
  dsimp only
  split
  · exact KeepF.refl N
  · split
    · exact KeepF.refl N
    · split
      · exact KeepF.refl N
      · exact ⟨rfl, rfl, rfl, rfl, rfl, Nat.le_succ _⟩
theorem armN_keep (N2 : NdS) (r : Int) (a : ActS) (o : OutS) : KeepF N2 (armN N2 r a o).1 := by
  unfold armN
  split
  · exact ⟨rfl, rfl, rfl, rfl, rfl, Nat.le_refl _⟩
  split
  · exact (sendN_keep _ _).f
  split
  · exact (sendN_keep _ _).f
  split
  · exact KeepF.trans (N1 := { N2 with rows := linkL N2.rows r o.num }) ⟨rfl, rfl, rfl, rfl, rfl, Nat.le_refl _⟩ (sendN_keep _ _).f
  split
  · refine (spawnN_keep N2 o.text).trans ?_
    dsimp only
    split
    · exact KeepF.refl _
    · exact ⟨rfl, rfl, rfl, rfl, rfl, Nat.le_refl _⟩
  split
  · exact ⟨rfl, rfl, rfl, rfl, rfl, Nat.le_refl _⟩
  split
  · exact (remN_keep _ _ _ _ _).f
  split
  · exact (remN_keep _ _ _ _ _).f
  · exact KeepF.refl _
theorem stepN_keep (N : NdS) (r : Int) : KeepF N (stepN N r).1 := by
  rcases ha : N.find r with _ | a
  · unfold stepN
    rw [ha]
    exact KeepF.refl N
  · rcases hg : (goA a).2 with _ | _
    · rw [stepN_no ha hg]
      exact ⟨rfl, rfl, rfl, rfl, rfl, Nat.le_refl _⟩
    · rw [stepN_go ha hg]
      exact KeepF.trans (N1 := (N.setA (goA a).1).setA (ranA N a)) ⟨rfl, rfl, rfl, rfl, rfl, Nat.le_refl _⟩ (armN_keep _ _ _ _)
theorem loopN_keep : ∀ (k : Nat) (N : NdS) (r : Int), KeepF N (loopN k N r)
  | 0, N, r => KeepF.refl N
  | k + 1, N, r => by
    unfold loopN
    split
    · split
      · exact (stepN_keep N r).trans (loopN_keep k _ r)
      · exact stepN_keep N r
    · exact KeepF.refl N
end Go.Proofs.YtjjfglbcikaicaaGreat
namespace Go.Proofs.YtjjfglbcikaicaaGreat
open Go.RowKit Go.Maps
set_option linter.unusedVariables false
set_option linter.unusedSimpArgs false
/-- block b holds the map g; the iterator at r has given L -/
def RngM (w : World) (b r : Nat) (g : Int → Option Value) (L : List Int) : Prop :=
  ∃ n D left cnt, w.ranges Tryz.prog 3 anyElem b r n D left cnt ∧ (∀ x, Wf x → Maps.has D (.int .i64 x) = (g x).isSome ∧ ∀ z, D.atKey (.int .i64 x) (.held z) = .held ((g x).getD z)) ∧ L.Nodup ∧ (∀ x, x ∈ L → Wf x ∧ (g x).isSome = true) ∧ (∀ x, Wf x → left (.int .i64 x) = ((g x).isSome && !decide (x ∈ L)))
theorem RngM.fr {S : Nat → Prop} {w w' : World} {b r : Nat} {g : Int → Option Value} {L : List Int} (h : RngM w b r g L) (hf : Fr S w w') (hb : ¬ S b) (hr : ¬ S r) : RngM w' b r g L ∧ w'.rangeLeft b r = w.rangeLeft b r := by
  obtain ⟨n, D, left, cnt, ⟨es, clock, since, seen, c0, h1, h2, h3, h4, h5, h6⟩, k⟩ := h
  have e1 : w'.heap[b]? = w.heap[b]? := hf.block b (Array.getElem?_eq_some_iff.1 h1).1 hb
  have e2 : w'.heap[r]? = w.heap[r]? := hf.block r (Array.getElem?_eq_some_iff.1 h5).1 hr
  refine ⟨⟨n, D, left, cnt, ⟨es, clock, since, seen, c0, e1.trans h1, h2, h3, h4, e2.trans h5, h6⟩, k⟩, ?_⟩
  unfold World.rangeLeft
  rw [e1, e2]
theorem RngM.lt {w : World} {b r : Nat} {g : Int → Option Value} {L : List Int} (h : RngM w b r g L) : b < w.heap.size ∧ r < w.heap.size ∧ r ≠ b := by
  obtain ⟨n, D, left, cnt, h, _⟩ := h
  have hne := h.ne
  obtain ⟨es, clock, since, seen, c0, h1, h2, h3, h4, h5, h6⟩ := h
  exact ⟨(Array.getElem?_eq_some_iff.1 h1).1, (Array.getElem?_eq_some_iff.1 h5).1, hne⟩
set_option maxRecDepth 100000 in
theorem wp_range_M {o : Oper} {ops : Array Oper} {Q : Exit → Act → World → Prop} {rest : List Oper} {a : Act} {w : World} (hg : o.guard = none) (m : Operand) (t e : TypeId) (hop : o.op = Op.range t m) (ht : Tryz.prog.underlying t = some (.map 3 e)) (b n : Nat) (g : Int → Option Value)
    (hm : a.eval m = .map (some b)) (hown : OwnM w b n g)
    (hK : ∀ w', RngM w' b w.heap.size g [] → Fr (fun _ => False) w w' → w'.heap.size = w.heap.size + 1 → wpList Tryz.prog ops Q rest (a.put o.dst (.pointer (some ⟨w.heap.size, 0, none⟩))) w') :
    wpList Tryz.prog ops Q (o :: rest) a w := by
  obtain ⟨D, h1, hs, h2⟩ := hown
  refine wpList_range_own w hg m t hop 3 e lawI ht anyElem b n D hm h1 fun w' r1 r2 r3 => hK w' ⟨n, D, _, _, r1, h2, List.nodup_nil, (fun x hx => by simp at hx), fun x hx => ?_⟩ (Fr.of_grown r2 (fun k hk => by cases hk)) r3
  rw [(h2 x hx).1]
  simp
set_option maxRecDepth 100000 in
theorem wp_next_M {o : Oper} {ops : Array Oper} {Q : Exit → Act → World → Prop} {rest : List Oper} {a : Act} {w : World} (hg : o.guard = none) (it : Operand) (hop : o.op = Op.next it false) (b r : Nat) (g : Int → Option Value) (L : List Int)
    (hit : a.eval it = .pointer (some ⟨r, 0, none⟩)) (h : RngM w b r g L)
    (hDone : (∀ x, Wf x → (g x).isSome = true → x ∈ L) → wpList Tryz.prog ops Q rest (a.put o.dst (.tuple #[.bool false])) w)
    (hMore : ∀ (x : Int) (v : Value) (w' : World), Wf x → g x = some v → x ∉ L → RngM w' b r g (L ++ [x]) → w'.rangeLeft b r < w.rangeLeft b r → Fr (fun k => k = r) w w' → w'.heap.size = w.heap.size → (Instr.entry (.pointer (some ⟨r, 0, none⟩))).run Tryz.prog w' = .ok (.tuple #[.int .i64 x, v]) w' → wpList Tryz.prog ops Q rest (a.put o.dst (.tuple #[.bool true, .int .i64 x, v])) w') :
    wpList Tryz.prog ops Q (o :: rest) a w := by
  obtain ⟨n, D, left, cnt, hr, h2, h3, h4, h5⟩ := h
  refine wpList_next_ranges w hg it hop 3 lawI anyElem (Value.int .i64) (fun v : Value => v) (fun key kl hkey => by obtain ⟨x, rfl, _⟩ := Maps.keyOf_int_inv Tryz.underlying3 hkey; exact ⟨x, rfl⟩) (fun v y _ => ⟨v, rfl⟩) b r n D left cnt hit hr (fun hc hl => hDone fun x hx hs => ?_) (fun x v kl y w' cnt' hkey hlk hv hat hrg hlt hgr hsz hen => ?_)
  · have := h5 x hx
    rw [hl, hs] at this
    simpa using this.symm
  · obtain ⟨x', ex, rfl, hwx⟩ := Maps.keyOf_int_inv Tryz.underlying3 hkey
    injection ex with _ ex
    subst ex
    have hl := h5 x hwx
    rw [hlk] at hl
    have hl' : (g x).isSome = true ∧ x ∉ L := by simpa using hl.symm
    obtain ⟨v0, hv0⟩ := Option.isSome_iff_exists.1 hl'.1
    have hv1 : y.1 = .held v := by
      obtain ⟨y1, y2⟩ := y
      exact anyElem_inv hv
    have hv2 : v = v0 := by
      have := hat (.held v)
      rw [hv1, (h2 x hwx).2 v, hv0] at this
      injection this with this
      exact this.symm
    subst hv2
    refine hMore x v w' hwx hv0 hl'.2 ⟨n, D, _, cnt', hrg, h2, ?_, fun z hz => ?_, fun z hz => ?_⟩ ?_ (Fr.of_grown hgr (fun k hk => .inl (by injection hk with hk; exact hk.symm))) hsz hen
    · rw [List.nodup_append]
      refine ⟨h3, by simp, fun c hc d hd => ?_⟩
      rw [List.mem_singleton] at hd
      exact fun e => hl'.2 (hd ▸ e ▸ hc)
    · rcases List.mem_append.1 hz with hz | hz
      · exact h4 z hz
      · rw [List.mem_singleton] at hz
        subst hz
        exact ⟨hwx, hl'.1⟩
    · rw [h5 z hz]
      by_cases e : z = x
      · subst e
        simp [Lit.sameKey]
      · simp [Lit.sameKey, e]
    · rw [hrg.left_eq, hr.left_eq]
      exact hlt
end Go.Proofs.YtjjfglbcikaicaaGreat
namespace Go.Proofs.YtjjfglbcikaicaaGreat
open Go.RowKit
set_option linter.unusedVariables false
/-- the numbers in order -/
def srt (l : List Int) : List Int := l.mergeSort fun x y => decide (x ≤ y)
theorem srt_perm (l : List Int) : (srt l).Perm l := List.mergeSort_perm _ _
theorem srt_len (l : List Int) : (srt l).length = l.length := (srt_perm l).length_eq
theorem srt_pairwise (l : List Int) : (srt l).Pairwise (· ≤ ·) := by
  have h := List.pairwise_mergeSort (le := fun x y : Int => decide (x ≤ y)) (by intro a b c h1 h2; simp at *; omega) (by intro a b; simp; omega) l
  exact h.imp (by intro a b h; simpa using h)
theorem srt_eq {l m : List Int} (h : l.Perm m) : srt l = srt m := by
  refine List.Perm.eq_of_pairwise (le := fun a b : Int => a ≤ b) (fun a b _ _ h1 h2 => by omega) (srt_pairwise l) (srt_pairwise m) ?_
  exact (srt_perm l).trans (h.trans (srt_perm m).symm)
def SortPost (base : Nat) (v : Value) (l : List Int) (w : World) (e : Ending) (w' : World) : Prop := e = .returned (.tuple #[]) ∧ OwnI w' base v (srt l) ∧ w.grownBy w' v.ownBlock
theorem sortI_own (base : Nat) (v : Value) (l : List Int) (w : World) (h : OwnI w base v l) (hl : l.length < 4611686018427387904) : Calls Tryz.prog 50 #[v] w (SortPost base v l w) := by
  rcases h.2 with ⟨rfl, h0⟩ | ⟨g, cap, cur, rfl, hb, hg, hnc, hcm, hcs, htake⟩
  · obtain rfl : l = [] := List.eq_nil_of_length_eq_zero h0
    refine (Tryz.sort_int_none _ _ _).mono ?_
    rintro e w' ⟨rfl, rfl⟩
    exact ⟨rfl, by simpa [srt] using h, grown_self _ _⟩
  · have hH := holds_of_blockI (ss := l) hg (by simpa [encI] using htake)
    have hlt := (Array.getElem?_eq_some_iff.1 hg).1
    refine (Tryz.sort_int g 0 cap l w hH hlt hl).mono ?_
    rintro e w' ⟨rfl, n, os, rfl⟩
    refine ⟨rfl, ?_, grownBy_sortedI _⟩
    have := ownsRow_sortedI (w := w) (base := base) (n := n) (os := os) (ss := l) (ts := srt l) (srt_len l) hb hg hnc hcm hcs
    unfold OwnI
    rw [srt_len]
    exact this
end Go.Proofs.YtjjfglbcikaicaaGreat
namespace Go.Proofs.YtjjfglbcikaicaaGreat
open Go.RowKit Go.Maps
set_option linter.unusedVariables false
set_option linter.unusedSimpArgs false
theorem nodup_leI : ∀ {l m : List Int}, l.Nodup → (∀ x ∈ l, x ∈ m) → l.length ≤ m.length
  | [], _, _, _ => Nat.zero_le _
  | x :: l, m, h, hs => by
    have hx := hs x (by simp)
    have h2 := List.nodup_cons.1 h
    have : l.length ≤ (m.erase x).length := nodup_leI h2.2 fun y hy => by
      refine (List.mem_erase_of_ne ?_).2 (hs y (by simp [hy]))
      rintro rfl
      exact h2.1 hy
    rw [List.length_erase_of_mem hx] at this
    have hp := List.length_pos_of_mem hx
    simp
    omega
theorem refsN_sorted {N : NdS} (hs : N.acts.Pairwise fun a b => a.ref < b.ref) : (refsN N).Pairwise (· < ·) := by
  unfold refsN
  exact List.pairwise_map.2 hs
theorem refsN_len (N : NdS) : (refsN N).length = N.acts.length := by unfold refsN; simp
theorem mem_refsN {N : NdS} {x : Int} : x ∈ refsN N ↔ N.has x = true := by
  rw [has_iff]
  unfold refsN
  simp
theorem srt_refsN {N : NdS} (hs : N.acts.Pairwise fun a b => a.ref < b.ref) {L : List Int} (hn : L.Nodup) (hm : ∀ x, x ∈ L ↔ N.has x = true) : srt L = refsN N := by
  have h1 := refsN_sorted hs
  have hnd : (refsN N).Nodup := h1.imp (by intro a b h; omega)
  have hp : L.Perm (refsN N) := (List.perm_ext_iff_of_nodup hn hnd).2 fun x => (hm x).trans mem_refsN.symm
  rw [srt_eq hp]
  refine List.Perm.eq_of_pairwise (le := fun a b : Int => a ≤ b) (fun a b _ _ h1 h2 => by omega) (srt_pairwise _) (h1.imp (by intro a b h; omega)) (srt_perm _)
set_option maxRecDepth 100000 in
set_option maxHeartbeats 4000000 in
theorem refs_any {w : World} {X M : Nat → Prop} {base T p : Nat} {P : Int → Nat} {N : NdS} (h : NodeAt w X M base T p P N) :
    Calls Tryz.prog 18 #[.pointer (some ⟨p, 0, none⟩)] w fun e w' => ∃ A c, e = .returned (.slice A N.acts.length c) ∧ OwnI w' w.heap.size (.slice A N.acts.length c) (refsN N) ∧ Below w.heap.size w w' := by
  obtain ⟨h1, h2, h3, mb, hb, MA, ob, sb, h4, h5⟩ := h
  have c3 := h4.c3
  have HOM := Lib.hid h4.am
  have hmb := h4.lt.2.1
  have hl60 := h1.len
  have HS := Lib.hid h1.srt
  have hwf : ∀ x, N.has x = true → Wf x := fun x hx => by
    obtain ⟨a, ha, rfl⟩ := has_iff.1 hx
    exact (h1.act a ha).ref
  have HWF := Lib.hid hwf
  clear h1 h2 h3 h4 h5 hwf
  go_enter Tryz.func18, Tryz.ntmps18
  go_wp2_with (first | (at_range; go_loud (refine wp_range_M rfl _ 99 107 rfl und_actors mb _ _ rfl HOM.out ?_); intro w0 hrng hfr hsz; have HRNG := Lib.hid hrng; have HFR0 := Lib.hid hfr; clear hrng hfr))
  go_frame
  generalize hgg : (fun r => if N.has r = true then some (Value.pointer (some ⟨P r, 0, none⟩)) else none) = g at *
  have HGG := Lib.hid hgg
  clear hgg
  go_loopw [3, 4] (fun v3 v4 wr => ∃ L A c, v3 = .slice A L.length c ∧ RngM wr mb w.heap.size g L ∧ OwnI wr (w.heap.size + 1) (.slice A L.length c) L ∧ Below w.heap.size w wr ∧ w.heap.size + 1 ≤ wr.heap.size) (fun _ _ wr => wr.rangeLeft mb w.heap.size)
  case atStart => exact ⟨[], none, 0, rfl, HRNG.out, OwnI.nil _ _, HFR0.out.below (fun _ h => h.elim) (Nat.le_refl _), by omega⟩
  case round =>
    obtain ⟨L, A, c, rfl, hR, hO, hB, hszr⟩ := hrel
    have HR := Lib.hid hR
    have HO := Lib.hid hO
    have HB := Lib.hid hB
    have hL : ∀ x, x ∈ L → N.has x = true := fun x hx => by
      obtain ⟨_, _, _, _, _, _, _, h4, _⟩ := hR
      have := (h4 x hx).2
      rw [← HGG.out] at this
      by_cases e : N.has x = true
      · exact e
      · simp [e] at this
    have hnd : L.Nodup := by
      obtain ⟨_, _, _, _, _, _, h3, _⟩ := hR
      exact h3
    have hlen : L.length ≤ 60 := by
      have := nodup_leI hnd (m := refsN N) (fun x hx => mem_refsN.2 (hL x hx))
      rw [refsN_len] at this
      omega
    have HND := Lib.hid hnd
    have HL := Lib.hid hL
    clear hR hO hB hsz hL hnd
    go_wp2_with (first
      | (at_next; (refine wp_next_M rfl _ rfl mb w.heap.size g L rfl HR.out ?_ ?_; rotate_left; (intro x v w5 hwx hgx hxL hR5 hlt5 hf5 hs5 hen; have HR5 := Lib.hid hR5; have HF5 := Lib.hid hf5; have HO5 := Lib.hid (show OwnI w5 (w.heap.size + 1) (.slice A L.length c) L from hf5.row HO.out (fun k hk e => by have := (HO.out.blk k hk).1; omega)); have HLT5 := Lib.hid hlt5; have HS5 := Lib.hid hs5; have hw5 : w.heap.size + 1 ≤ w5.heap.size := (by omega); clear hwx hgx hxL hR5 hf5 hlt5 hs5); rotate_left; (intro hd; have HD := Lib.hid hd; clear hd)))
      | (at_builtin; go_loud (refine wpList_append_int rfl _ _ rfl (w.heap.size + 1) (.slice A L.length c) L rfl HO5.out w5.heap.size rfl x rfl (by omega) (by omega) ?_; intro v6 w6 hO6 hg6 hat6; have HO6 := Lib.hid hO6; have HG6 := Lib.hid hg6; have HA6 := Lib.hid hat6; clear hO6 hg6 hat6)))
    · refine (sortI_own _ _ L _ HO.out (by omega)).mono ?_
      rintro e w6 ⟨rfl, hO6, hg6⟩
      have HO6 := Lib.hid hO6
      have HG6 := Lib.hid hg6
      clear hO6 hg6
      go_wp2_with fail
      have hmem : ∀ x, x ∈ L ↔ N.has x = true := fun x => ⟨HL.out x, fun hx => HD.out x (HWF.out x hx) (by rw [← HGG.out]; simp [hx])⟩
      have hsr := srt_refsN HS.out HND.out hmem
      have hll : L.length = N.acts.length := by rw [← srt_len L, hsr, refsN_len]
      go_ret
      refine ⟨A, c, by rw [hll]; rfl, ?_, ?_⟩
      · rw [← hsr, ← hll]
        exact HO6.out.mono (by omega)
      · exact below_grown HB.out HB.out.size HG6.out (fun k hk => by have := (HO.out.blk k hk).1; omega)
    · obtain ⟨A6, c6, hv6, -, -, -⟩ := own_any HO6.out
      obtain ⟨r1, r2, r3⟩ := HR5.out.lt
      have hrb := HB.out.size
      have hg6 := HG6.out
      have hne : (Value.slice A L.length c).ownBlock ≠ some mb ∧ (Value.slice A L.length c).ownBlock ≠ some w.heap.size := ⟨fun e => by have := (HO.out.blk mb e).1; omega, fun e => by have := (HO.out.blk _ e).1; omega⟩
      obtain ⟨k1, k2⟩ := HR5.out.fr (Fr.of_grown (S := fun k => (Value.slice A L.length c).ownBlock = some k) hg6 (fun k hk => .inl hk)) hne.1 hne.2
      have hm := HLT5.out
      have hs5 := HS5.out
      refine ⟨⟨L ++ [x], A6, c6, hv6.trans (by simp), k1, by have := HO6.out; rw [hv6] at this; simpa using this, ?_, ?_⟩, ?_⟩
      · exact below_grown (HB.out.trans (HF5.out.below (fun k hk => by omega) hrb)) (by omega) hg6 (fun k hk => by have := (HO.out.blk k hk).1; omega)
      · have := hg6.size; omega
      · omega
end Go.Proofs.YtjjfglbcikaicaaGreat
namespace Go.Proofs.YtjjfglbcikaicaaGreat.Tu
open Go.RowKit
set_option linter.unusedVariables false
def OkR (T : Nat → Int) (n : Nat) : Prop := n ≤ 100 ∧ ∀ k, k + 1 < n → T k < T (k + 1)
def ChkR (Ok : Prop) (w : World) (e : Ending) (w' : World) : Prop := ∃ x : Int, e = .returned (.int .i64 x) ∧ (x = 0 ↔ Ok) ∧ ∃ q, w' = w.drewN q
set_option maxRecDepth 100000 in
set_option maxHeartbeats 1000000 in
theorem checkR_any (A : Option Addr) (n c : Nat) (T : Nat → Int) (w : World) (hn : n ≤ c) (hc : c ≤ 9223372036854775807) (hT : Rd w 1 (tmC T) A n) :
    Calls Tryz.prog 78 #[.slice A n c] w (ChkR (OkR T n) w) := by
  have HT := Lib.hid hT
  clear hT
  by_cases h100 : 100 < n
  · have e0 : decide ((100 : Int) < (n : Int)) = true := by simp; omega
    go_enter Tryz.func78, Tryz.ntmps78
    go_wp2_with fail
    go_ret
    exact ⟨2, rfl, ⟨fun h => by omega, fun h => by have := h.1; omega⟩, 0, rfl⟩
  have e0 : decide ((100 : Int) < (n : Int)) = false := by simp; omega
  go_enter Tryz.func78, Tryz.ntmps78
  go_wp2_with fail
  go_loopw [3] (fun i wr => ∃ k q : Nat, i = .int .i64 ((k : Int) + 1) ∧ k ≤ n ∧ (∀ j, j < k → j + 1 < n → T j < T (j + 1)) ∧ wr = w.drewN q) (fun i _ => n + 1 - (intOf i).toNat)
  case atStart => exact ⟨0, 0, rfl, by omega, fun j hj => by omega, rfl⟩
  case round =>
    obtain ⟨k, q, rfl, hk, hlow, rfl⟩ := hrel
    have HL := Lib.hid hlow
    clear hlow
    by_cases hlt : k + 1 < n
    · obtain ⟨b, off, rfl, hb, hcell⟩ := HT.out (by omega)
      have c0 : (w.drewN q).cell? ⟨b, off + k, none⟩ = some (.int .i64 (T k)) := by simpa using hcell k (by omega) 0 _ rfl
      have c1 : (w.drewN q).cell? ⟨b, off + (k + 1), none⟩ = some (.int .i64 (T (k + 1))) := by simpa using hcell (k + 1) (by omega) 0 _ rfl
      have i1 : (0 : Int) ≤ (k : Int) + 1 := by omega
      have i2 : (k : Int) + 1 < (n : Int) := by omega
      have i3 : ((k : Int) + 1).toNat = k + 1 := by omega
      have i4 : IntKind.i64.wrap ((k : Int) + 1 - 1) = (k : Int) := by rw [IntWalk.i64_in _ (by omega)]; omega
      have i5 : (0 : Int) ≤ (k : Int) := by omega
      have i6 : (k : Int) < (n : Int) := by omega
      clear hcell
      generalize hW : w.drewN q = wx at *
      have HW := Lib.hid hW
      clear hW
      by_cases hp : T (k + 1) ≤ T k
      · have HP := Lib.hid hp
        go_wp2_with fail
        go_quiet (fail)
        go_wp2_with fail
        go_ret
        exact ⟨21, rfl, ⟨fun h => by omega, fun h => by have := h.2 k hlt; omega⟩, q + nq, by rw [← HW.out, drewN_drewN]⟩
      · have hp' : T k < T (k + 1) := by omega
        go_wp2_with fail
        go_quiet (fail)
        clear i1 i2 i3 i4 i5 i6 c0 c1
        go_wp2_with fail
        go_roundw
        case rel =>
          refine ⟨k + 1, q + nq, by go_num, by omega, fun j hj hj1 => ?_, by rw [← HW.out, drewN_drewN]⟩
          by_cases e : j = k
          · subst e; exact hp'
          · exact HL.out j (by omega) hj1
        case measure => simp [intOf]; omega
    · have hge : ¬ ((k : Int) + 1 < (n : Int)) := by omega
      go_wp2_with fail
      go_ret
      exact ⟨0, rfl, ⟨fun _ => ⟨by omega, fun j hj => HL.out j (by omega) hj⟩, fun _ => rfl⟩, q, rfl⟩
/-- the first task behind one, or the first of all -/
def aftOf (T : Nat → Int) (n : Nat) (last : Int) : Int := if 0 ≤ ixOf (fun k => decide (last < T k)) n then T (ixOf (fun k => decide (last < T k)) n).toNat else T 0
set_option maxHeartbeats 400000 in
theorem after_any (A : Option Addr) (n c : Nat) (T : Nat → Int) (last : Int) (w : World) (h0 : 0 < n) (hn : n ≤ 9223372036854775807) (hT : Rd w 1 (tmC T) A n) :
    Calls Tryz.prog 79 #[.slice A n c, .int .i64 last] w fun e w' => e = .returned (.int .i64 (aftOf T n last)) ∧ w = w' := by
  obtain ⟨b, off, rfl, hb, hcell⟩ := hT h0
  have HC := Lib.hid hcell
  clear hT hcell
  go_enter Tryz.func79, Tryz.ntmps79
  go_wp2_with fail
  go_loop [6, 9] (fun _ i => ∃ k : Nat, k ≤ n ∧ i = .int .i64 k ∧ (∀ j, j < k → decide (last < T j) = false)) (fun _ i => n - (intOf i).toNat)
  case atStart => exact ⟨0, Nat.zero_le _, rfl, fun j hj => by omega⟩
  case round =>
    obtain ⟨k, hk, rfl, hlow⟩ := hrel
    have HL := Lib.hid hlow
    clear hlow
    by_cases hlt : k < n
    · have c0 : w.cell? ⟨b, off + k, none⟩ = some (.int .i64 (T k)) := by simpa using HC.out k hlt 0 _ rfl
      by_cases hp : last < T k
      · have hp1 : decide (last < T k) = true := by simpa using hp
        have HE := Lib.hid (ixOf_found hlt (p := fun k => decide (last < T k)) hp1 HL.out)
        go_wp2_with fail
        go_ret
        refine ⟨ret_int ?_, rfl⟩
        unfold aftOf
        rw [HE.out, if_pos (by omega)]
        rfl
      · have hp1 : decide (last < T k) = false := by simpa using hp
        go_wp2_with fail
        go_round
        case rel =>
          refine ⟨k + 1, by omega, by go_num, fun j hj => ?_⟩
          by_cases e : j = k
          · rw [e]; exact hp1
          · exact HL.out j (by omega)
        case measure => simp [intOf]; omega
    · have c0 : w.cell? ⟨b, off, none⟩ = some (.int .i64 (T 0)) := by simpa using HC.out 0 h0 0 _ rfl
      have HE := Lib.hid (ixOf_none (p := fun k => decide (last < T k)) (n := n) (fun j hj => HL.out j (by omega)))
      go_wp2_with fail
      go_ret
      refine ⟨ret_int ?_, rfl⟩
      unfold aftOf
      rw [HE.out, if_neg (by omega)]
def NextPost (T : Nat → Int) (n : Nat) (last : Int) (w : World) (e : Ending) (w' : World) : Prop :=
  (OkR T n ∧ 0 < n ∧ e = .returned (.tuple #[.int .i64 (aftOf T n last), .int .i64 0]) ∨ ¬ (OkR T n ∧ 0 < n) ∧ ∃ x : Int, x ≠ 0 ∧ e = .returned (.tuple #[.int .i64 0, .int .i64 x])) ∧ ∃ q, w' = w.drewN q
set_option maxHeartbeats 400000 in
theorem next_any (A : Option Addr) (n c : Nat) (T : Nat → Int) (last : Int) (w : World) (hn : n ≤ c) (hc : c ≤ 9223372036854775807) (hT : Rd w 1 (tmC T) A n) :
    Calls Tryz.prog 48 #[.slice A n c, .int .i64 last] w (NextPost T n last w) := by
  have H := Lib.hid (checkR_any A n c T w hn hc hT)
  have HT := Lib.hid hT
  clear hT
  by_cases ok : OkR T n
  · have HK := Lib.hid ok
    clear ok
    by_cases h0 : 0 < n
    · have e0 : ((n : Int) == 0) = false := by simp; omega
      go_enter Tryz.func48, Tryz.ntmps48
      go_wp2_with fail
      refine H.out.mono ?_
      rintro e w1 ⟨x, rfl, hx, q, rfl⟩
      obtain rfl : x = 0 := hx.2 HK.out
      clear hx
      go_wp2_with fail
      refine (after_any A n c T last _ h0 (by omega) (by exact HT.out)).mono ?_
      rintro e w2 ⟨rfl, rfl⟩
      go_wp2_with fail
      go_ret2
      exact ⟨.inl ⟨HK.out, h0, rfl⟩, q, rfl⟩
    · have e0 : ((n : Int) == 0) = true := by simp; omega
      go_enter Tryz.func48, Tryz.ntmps48
      go_wp2_with fail
      refine H.out.mono ?_
      rintro e w1 ⟨x, rfl, hx, q, rfl⟩
      obtain rfl : x = 0 := hx.2 HK.out
      clear hx
      go_wp2_with fail
      go_ret2
      exact ⟨.inr ⟨fun h => h0 h.2, 4, by omega, rfl⟩, q, rfl⟩
  · have HK := Lib.hid ok
    clear ok
    go_enter Tryz.func48, Tryz.ntmps48
    go_wp2_with fail
    refine H.out.mono ?_
    rintro e w1 ⟨x, rfl, hx, q, rfl⟩
    have hx' : x ≠ 0 := fun h => HK.out (hx.1 h)
    have hx0 : (x != 0) = true := by simpa using hx'
    clear hx
    go_wp2_with fail
    go_ret2
    exact ⟨.inr ⟨fun h => HK.out h.1, x, hx', rfl⟩, q, rfl⟩
def T25 : Nat → Int := fun k => if k = 0 then 2 else 5
end Go.Proofs.YtjjfglbcikaicaaGreat.Tu
namespace Go.Proofs.YtjjfglbcikaicaaGreat
open Go.RowKit Go.Maps
set_option linter.unusedVariables false
set_option linter.unusedSimpArgs false
theorem can_nd {w : World} {X M : Nat → Prop} {base T p : Nat} {P : Int → Nat} {N : NdS} {r : Int} {a : ActS} (h : NodeAt w X M base T p P N) (ha : N.find r = some a) :
    Calls Tryz.prog 47 #[.pointer (some ⟨P r, 0, none⟩)] w fun e w' => e = .returned (.bool (canA a)) ∧ ∃ q, w' = w.drewN q := by
  obtain ⟨pa, b, rb, kb, ib, MA, mb, rfl, _, hA, _⟩ := h.act ha
  exact can_any X base T MA (P r) b rb kb ib a w hA
set_option maxRecDepth 100000 in
set_option maxHeartbeats 400000 in
theorem next_nil (A : Option Addr) (c : Nat) (last : Int) (w : World) (hc : c ≤ 9223372036854775807) : Calls Tryz.prog 48 #[.slice A 0 c, .int .i64 last] w fun e w' => e = .returned (.tuple #[.int .i64 0, .int .i64 4]) ∧ ∃ q, w' = w.drewN q := by
  have H := Lib.hid (Tu.checkR_any A 0 c (fun _ => 0) w (Nat.zero_le _) hc (fun h => by omega))
  go_enter Tryz.func48, Tryz.ntmps48
  go_wp2_with fail
  refine H.out.mono ?_
  rintro e w1 ⟨x, rfl, hx, q, rfl⟩
  obtain rfl : x = 0 := hx.2 ⟨by omega, fun k hk => by omega⟩
  clear hx
  go_wp2_with fail
  go_ret2
  exact ⟨rfl, q, rfl⟩
theorem aft_next {l : List Int} (h : l ≠ []) (last : Int) : Tu.aftOf (lst l) l.length last = nextI l last := by
  unfold Tu.aftOf nextI
  rcases hf : l.find? (fun n => decide (last < n)) with _ | x
  · have hn : ixOf (fun k => decide (last < lst l k)) l.length = -1 := ixOf_none (fun j hj => by
      have := List.find?_eq_none.1 hf (l[j]) (List.getElem_mem hj)
      unfold lst
      rw [List.getD_eq_getElem?_getD, List.getElem?_eq_getElem hj, Option.getD_some]
      simpa using this)
    rw [hn, if_neg (by omega)]
    cases l with
    | nil => exact absurd rfl h
    | cons a l => rfl
  · obtain ⟨hp, i, hi, hix, hlo⟩ := List.find?_eq_some_iff_getElem.1 hf
    have e : ∀ j (hj : j < l.length), lst l j = l[j] := fun j hj => by
      unfold lst
      rw [List.getD_eq_getElem?_getD, List.getElem?_eq_getElem hj, Option.getD_some]
    have hn : ixOf (fun k => decide (last < lst l k)) l.length = (i : Int) := ixOf_found hi (by rw [e i hi, hix]; exact hp) (fun j hj => by
      have := hlo j hj
      rw [e j (by omega)]
      simpa using this)
    rw [hn, if_pos (by omega), Int.toNat_natCast, e i hi]
    exact hix
theorem NodeAt.set7 {w : World} {X M : Nat → Prop} {base T p : Nat} {P : Int → Nat} {N : NdS} (h : NodeAt w X M base T p P N) (l : Int) : NodeAt (w.setCell ⟨p, 7, none⟩ (.int .i64 l)) X M base T p P { N with last := l } := by
  obtain ⟨h1, h2, h3, mb, hb, MA, ob, sb, h4, h5⟩ := h
  exact ⟨{ h1 with }, fun k hk => by simpa using h2 k hk, h3, mb, hb, MA, ob, sb, h4.set7 (h3 p h5.p) l, h5.p, h5.mb, h5.hb, h5.ob, h5.sb, h5.act⟩
theorem NodeAt.lastc {w : World} {X M : Nat → Prop} {base T p : Nat} {P : Int → Nat} {N : NdS} (h : NodeAt w X M base T p P N) : w.cell? ⟨p, 7, none⟩ = some (.int .i64 N.last) := by
  obtain ⟨_, _, _, _, _, _, _, _, h4, _⟩ := h
  exact h4.c7
/-- those of the first q actors who can have a turn -/
def rdyN (l : List ActS) (q : Nat) : List Int := ((l.take q).filter canA).map (·.ref)
theorem rdy_succ {l : List ActS} {q : Nat} {a : ActS} (h : l[q]? = some a) : rdyN l (q + 1) = rdyN l q ++ (if canA a then [a.ref] else []) := by
  unfold rdyN
  rw [List.take_add_one, h, List.filter_append, List.map_append]
  congr 1
  show List.map _ (List.filter canA [a]) = _
  rcases hc : canA a with _ | _ <;> simp [hc]
theorem rdy_sorted {N : NdS} (hs : N.acts.Pairwise fun a b => a.ref < b.ref) : (readyN N).Pairwise (· < ·) := by
  unfold readyN
  exact List.pairwise_map.2 (hs.filter _)
theorem eql_nil (a : Addr) (w : World) : (binOp BinOp.eql 107 (.pointer none) (.pointer (some a))).run Tryz.prog w = .ok (.bool false) w := by kernel_rfl
theorem info_actor : (Tryz.prog.info? 112).isSome = true := by kernel_rfl
theorem eql_same (a : Addr) (w : World) : (binOp BinOp.eql 107 (.pointer (some a)) (.pointer (some a))).run Tryz.prog w = .ok (.bool true) w := by
  obtain ⟨j, hj⟩ := Option.isSome_iff_exists.1 info_actor
  exact run_eql_ptr_same w a Tryz.underlying107 hj
theorem loopN_succ (k : Nat) (N : NdS) (r : Int) : loopN (k + 1) N r = if N.has r = true then (if (stepN N r).2 = true then loopN k (stepN N r).1 r else (stepN N r).1) else N := rfl
theorem nextI_mem {l : List Int} (h : l ≠ []) (last : Int) : nextI l last ∈ l := by
  unfold nextI
  rcases hf : l.find? (fun n => decide (last < n)) with _ | x
  · cases l with
    | nil => exact absurd rfl h
    | cons a l => simp
  · exact List.mem_of_find?_eq_some hf
def TurnPost (X M : Nat → Prop) (base T p : Nat) (P : Int → Nat) (N : NdS) (w : World) (e : Ending) (w' : World) : Prop :=
  e = .returned (.tuple #[.int .i64 (turnN N).2.1, .int .i64 (turnN N).2.2]) ∧ ∃ P' X' M', Gr X M w X' M' w' ∧ NodeAt w' X' M' base T p P' (turnN N).1
set_option maxRecDepth 100000 in
set_option maxHeartbeats 8000000 in
theorem turn_any {w : World} {X M : Nat → Prop} {base T p : Nat} {P : Int → Nat} {N : NdS} (h : NodeAt w X M base T p P N) (hT : T + 200000000 ≤ 1000000000000) :
    Calls Tryz.prog 17 #[.pointer (some ⟨p, 0, none⟩)] w (TurnPost X M base (T + 60000000) p P N w) := by
  have HT := Lib.hid hT
  have HN := Lib.hid h
  have hok := h.ok
  have HOK := Lib.hid hok
  have hln := hok.len
  have hplt := h.p_lt
  have HR := Lib.hid (refs_any h)
  obtain ⟨mb, c3, hmb, hMb, hlk1, hlk2⟩ := h.look
  have HLK1 := Lib.hid hlk1
  have c7 := h.lastc
  have hfz := h.fzp
  clear h hT hok hlk1 hlk2
  go_enter Tryz.func17, Tryz.ntmps17
  go_wp2_with fail
  refine HR.out.mono ?_
  rintro e w1 ⟨A1, cc1, rfl, hO1, hb1⟩
  have HO1 := Lib.hid hO1
  have HB1 := Lib.hid hb1
  have HF1 := Lib.hid (Fr.of_below (S := fun _ => False) hb1)
  obtain ⟨A1', cc1', hv1, k1, k2, -⟩ := own_any hO1
  injection hv1 with e1 e2 e3
  subst e1 e3
  clear e2
  rw [refsN_len] at k1
  have d3 := HF1.out.cell c3 (fun h => h)
  clear hO1 hb1
  go_upto_block 0 with (fail)
  go_cut [4] (fun v4 wx => ∃ A c, v4 = .slice A (readyN N).length c ∧ Hid ((readyN N).length ≤ c ∧ c ≤ 9223372036854775807 ∧ (A = none → (readyN N).length = 0) ∧ Rd wx 1 (tmC (lst (readyN N))) A (readyN N).length) ∧ Hid (Fr (fun _ => False) w wx))
  case first =>
    have hz1 := HB1.out.size
    go_wp2_with fail
    go_loopw [4, 6, 14] (fun v4 _ v14 wr => ∃ q A c, q ≤ N.acts.length ∧ v14 = .int .i64 (q : Int) ∧ v4 = .slice A (rdyN N.acts q).length c ∧ Hid (OwnI wr w1.heap.size (.slice A (rdyN N.acts q).length c) (rdyN N.acts q)) ∧ Hid (Below w1.heap.size w1 wr)) (fun _ _ v14 _ => N.acts.length - (intOf v14).toNat)
    case atStart => exact ⟨0, none, 0, Nat.zero_le _, rfl, rfl, Lib.hid (OwnI.nil _ _), Lib.hid (Below.refl _ _)⟩
    case round =>
      obtain ⟨q, A, c, hq, rfl, rfl, HO, HB⟩ := hrel
      have hzr := HB.out.size
      have hrl : (rdyN N.acts q).length ≤ 60 := by
        unfold rdyN
        rw [List.length_map]
        exact Nat.le_trans (List.length_filter_le _ _) (by rw [List.length_take]; omega)
      by_cases hlt : q < N.acts.length
      · obtain ⟨b, off, hA1, hb, hcell⟩ := (HO1.out.rd.below HB.out) (by rw [refsN_len]; omega)
        subst hA1
        have c0 := hcell q (by rw [refsN_len]; exact hlt) 0 _ rfl
        simp only [Nat.add_zero, Nat.mul_one] at c0
        obtain ⟨a, ha⟩ : ∃ a, N.acts[q]? = some a := ⟨_, List.getElem?_eq_getElem hlt⟩
        have hal : lst (refsN N) q = a.ref := by
          unfold lst refsN
          rw [List.getD_eq_getElem?_getD, List.getElem?_map, ha]
          rfl
        rw [hal] at c0
        have hfa := find_of_mem HOK.out.srt (List.mem_of_getElem? ha)
        have hfr : Fr (fun _ => False) w wr := HF1.out.trans' (Fr.of_below HB.out)
        obtain ⟨pa, hpa, _, _, _, _, hlk⟩ := HLK1.out a.ref a hfa
        subst hpa
        have hl1 := hlk wr (hfr.weak (fun _ h => h.elim))
        have d3r := hfr.cell c3 (fun h => h)
        have HCAN := Lib.hid (can_nd (HN.out.new hfr (fun _ h => h)) hfa)
        have HRS := Lib.hid (rdy_succ ha)
        have i1 : (0 : Int) ≤ (q : Int) := by omega
        have i2 : (q : Int) < (N.acts.length : Int) := by omega
        clear hcell hal hfa hfr hlk ha
        rcases hcn : canA a with _ | _
        · rw [hcn] at HCAN HRS
          clear hcn
          go_wp2_with fail
          refine HCAN.out.mono ?_
          rintro e w5 ⟨rfl, q5, rfl⟩
          go_wp2_with fail
          go_roundw
          case rel =>
            refine ⟨q + 1, A, c, by omega, by go_num, ?_, Lib.hid ?_, Lib.hid (below_drewN HB.out _)⟩
            · rw [HRS.out]; simp
            · rw [HRS.out]
              simpa using HO.out.below (below_drewN (Below.refl _ _) q5)
          case measure => simp [intOf]; omega
        · rw [hcn] at HCAN HRS
          clear hcn
          go_wp2_with fail
          refine HCAN.out.mono ?_
          rintro e w5 ⟨rfl, q5, hw5⟩
          have HB5 := Lib.hid (show Below wr.heap.size wr w5 by rw [hw5]; exact below_drewN (Below.refl _ _) _)
          have hz5 := HB5.out.size
          clear hw5
          go_wp2_with (at_builtin; (refine wpList_append_int rfl _ _ rfl w1.heap.size (.slice A (rdyN N.acts q).length c) (rdyN N.acts q) rfl (HO.out.below HB5.out) w5.heap.size rfl a.ref rfl (by omega) (by omega) ?_; intro v6 w6 hO6 hg6 hat6; have HO6 := Lib.hid hO6; have HG6 := Lib.hid hg6; clear hO6 hg6 hat6))
          go_roundw
          case rel =>
            obtain ⟨A6, c6, hv6, -, -, -⟩ := own_any HO6.out
            have e6 : rdyN N.acts q ++ [a.ref] = rdyN N.acts (q + 1) := by rw [HRS.out]; simp
            have hO6 := HO6.out
            rw [e6] at hv6 hO6
            rw [hv6] at hO6
            refine ⟨q + 1, A6, c6, by omega, by go_num, hv6, Lib.hid hO6, Lib.hid ?_⟩
            exact below_grown (HB.out.trans (HB5.out.mono hzr)) (by omega) HG6.out (fun k hk => by have := (HO.out.blk k hk).1; omega)
          case measure => simp [intOf]; omega
      · obtain rfl : q = N.acts.length := by omega
        go_wp2_with fail
        have e : rdyN N.acts N.acts.length = readyN N := by unfold rdyN readyN; rw [List.take_length]
        have hO := HO.out
        rw [e] at hO
        obtain ⟨A', c', hv, k3, k4, k5⟩ := own_any hO
        injection hv with e1 e2 e3
        subst e1 e3
        go_meet
        refine ⟨A, c, by rw [e], Lib.hid ⟨k3, k4, k5, hO.rd⟩, Lib.hid (HF1.out.trans' (Fr.of_below HB.out))⟩
  case rest =>
    obtain ⟨Ar, cr, rfl, HRD, HFr⟩ := hcut
    clear HR HO1 HB1 HF1 k1 k2 d3
    have c7r := HFr.out.cell c7 (fun h => h)
    have hpr := Nat.lt_of_lt_of_le hplt HFr.out.size
    have hfzr : ∀ o, wc.frozen? ⟨p, o, none⟩ = false := fun o => (HFr.out.frozen hplt (fun h => h)).trans (hfz o)
    have HNR := Lib.hid (HN.out.new HFr.out (fun _ h => h))
    by_cases hrd : readyN N = []
    · have HE := Lib.hid (show turnN N = (N, 0, 4) by unfold turnN; rw [if_pos hrd])
      have h0 : (readyN N).length = 0 := by rw [hrd]; rfl
      have HNX := Lib.hid (next_nil Ar cr N.last wc HRD.out.2.1)
      rw [h0]
      clear hrd h0
      go_wp2_with fail
      refine HNX.out.mono ?_
      rintro e w5 ⟨rfl, q5, rfl⟩
      go_wp2_with fail
      refine bodyPost_ret (v := .tuple #[.int .i64 0, .int .i64 4]) (by simp [results, Tryz.results17, go_sem]) rfl ?_
      unfold TurnPost
      rw [HE.out]
      have hfd : Fr (fun _ => False) w (wc.drewN q5) := HFr.out.trans' (Fr.of_below (below_drewN (Below.refl _ _) _))
      exact ⟨rfl, P, X, M, Gr.new hfd, (HN.out.new hfd (fun _ h => h)).up (by omega)⟩
    · obtain ⟨rf, hrf⟩ : ∃ rf, nextI (readyN N) N.last = rf := ⟨_, rfl⟩
      have HE := Lib.hid (show turnN N = (loopN N.fuel { N with last := rf } rf, rf, 0) by unfold turnN; rw [if_neg hrd, hrf])
      have hmem : rf ∈ readyN N := by rw [← hrf]; exact nextI_mem hrd _
      obtain ⟨a, ha, har⟩ : ∃ a, a ∈ N.acts ∧ a.ref = rf := by
        unfold readyN at hmem
        obtain ⟨a, ha, e⟩ := List.mem_map.1 hmem
        exact ⟨a, (List.mem_filter.1 ha).1, e⟩
      have hfa : N.find rf = some a := har ▸ find_of_mem HOK.out.srt ha
      have hwr : Wf rf := har ▸ (HOK.out.act a ha).ref
      have hl0 : 0 < (readyN N).length := List.length_pos_iff.2 hrd
      have hl60 : (readyN N).length ≤ 60 := by
        unfold readyN
        rw [List.length_map]
        exact Nat.le_trans (List.length_filter_le _ _) hln
      have hokr : Tu.OkR (lst (readyN N)) (readyN N).length := ⟨by omega, fun k hk => by
        have := List.pairwise_iff_getElem.1 (rdy_sorted HOK.out.srt) k (k + 1) (by omega) hk (by omega)
        unfold lst
        rw [List.getD_eq_getElem?_getD, List.getD_eq_getElem?_getD, List.getElem?_eq_getElem (by omega), List.getElem?_eq_getElem hk]
        exact this⟩
      have HNX := Lib.hid (show Calls Tryz.prog 48 #[.slice Ar (readyN N).length cr, .int .i64 N.last] wc fun e w' => e = .returned (.tuple #[.int .i64 rf, .int .i64 0]) ∧ ∃ q, w' = wc.drewN q from (Tu.next_any Ar _ cr (lst (readyN N)) N.last wc HRD.out.1 HRD.out.2.1 HRD.out.2.2.2).mono (by
        rintro e w' ⟨⟨_, _, rfl⟩ | ⟨hn, _⟩, q, rfl⟩
        · rw [aft_next hrd, hrf]
          exact ⟨rfl, q, rfl⟩
        · exact absurd ⟨hokr, hl0⟩ hn))
      have HFA := Lib.hid hfa
      have HWR := Lib.hid hwr
      clear hrf hmem ha har hfa hwr hl0 hl60 hokr hrd
      generalize (readyN N).length = rl at *
      go_wp2_with fail
      refine HNX.out.mono ?_
      rintro e w5 ⟨rfl, q5, hw5⟩
      have hf5 : Fr (fun _ => False) wc w5 := by rw [hw5]; exact Fr.of_below (below_drewN (Below.refl _ _) _)
      have HF5 := Lib.hid hf5
      have c75 := hf5.cell c7r (fun h => h)
      have hfz5 : ∀ o, w5.frozen? ⟨p, o, none⟩ = false := fun o => (hf5.frozen hpr (fun h => h)).trans (hfzr o)
      have hp5 := Nat.lt_of_lt_of_le hpr hf5.size
      have HN7 := Lib.hid ((HNR.out.new hf5 (fun _ h => h)).set7 rf)
      have HG7 := Lib.hid (show Gr X M w X M (w5.setCell ⟨p, 7, none⟩ (.int .i64 rf)) from ⟨((HFr.out.trans' hf5).weak (fun _ h => h.elim)).set (.inl HN.out.pM.1) _, fun _ h => h, fun _ h => .inl h, fun _ h => .inl h⟩)
      obtain ⟨mb7, d37, -, hM7, hlk7, -⟩ := HN7.out.look
      obtain ⟨pa, hpa, _, _, _, _, hl7⟩ := hlk7 rf a HFA.out
      subst hpa
      have hl77 := hl7 _ (Fr.refl _ _)
      clear hw5 hf5 hlk7 hl7 c7r hfzr HNX HRD c7 hfz c3 HLK1
      go_wp2_with fail
      generalize hW7 : w5.setCell ⟨p, 7, none⟩ (.int .i64 rf) = W7 at *
      clear hW7 c75 hfz5
      go_loopw [10] (fun v10 wr => ∃ (k : Nat) (Pk : Int → Nat) (Xk Mk : Nat → Prop) (Nk : NdS), k ≤ N.fuel ∧ v10 = .int .i64 (k : Int) ∧ Hid (Gr X M W7 Xk Mk wr) ∧ Hid (NodeAt wr Xk Mk base (T + 5000 * k) p Pk Nk) ∧ Hid (Nk.has rf = true → Pk rf = P rf) ∧ Hid (loopN N.fuel { N with last := rf } rf = loopN (N.fuel - k) Nk rf) ∧ Hid (Nk.fuel = N.fuel)) (fun v10 _ => N.fuel - (intOf v10).toNat)
      case atStart => exact ⟨0, P, X, M, { N with last := rf }, Nat.zero_le _, rfl, Lib.hid (Gr.refl _ _ _), HN7, Lib.hid (fun _ => rfl), Lib.hid rfl, Lib.hid rfl⟩
      case round =>
        obtain ⟨k, Pk, Xk, Mk, Nk, hk, rfl, HGk, HNk, HPk, HLk, HFk⟩ := hrel
        have hfl := HOK.out.fuel
        have f1 := HNk.out.fuelc
        rw [HFk.out] at f1
        have HEND := Lib.hid (fun (w' : World) (X' M' : Nat → Prop) (P' : Int → Nat) (T' : Nat) (hT' : T' ≤ T + 60000000) (hg : Gr X M W7 X' M' w') (hn : NodeAt w' X' M' base T' p P' (loopN N.fuel { N with last := rf } rf)) => show TurnPost X M base (T + 60000000) p P N w (.returned (.tuple #[.int .i64 rf, .int .i64 0])) w' from by
          unfold TurnPost
          rw [HE.out]
          exact ⟨rfl, P', X', M', HG7.out.trans hg, hn.up hT'⟩)
        obtain ⟨mbk, d3k, -, -, hlk1, hlk2⟩ := HNk.out.look
        by_cases hlt : k < N.fuel
        · have hsub : N.fuel - k = (N.fuel - (k + 1)) + 1 := by omega
          have i1 : decide ((k : Int) < (N.fuel : Int)) = true := decide_eq_true (by omega)
          rcases hhas : Nk.has rf with _ | _
          · have hlook := hlk2 rf HWR.out hhas wr (Fr.refl _ _)
            have HLE := Lib.hid (show loopN N.fuel { N with last := rf } rf = Nk by rw [HLk.out, hsub, loopN_succ, if_neg (by rw [hhas]; decide)])
            have heq := eql_nil ⟨P rf, 0, none⟩ wr
            clear hlk1 hlk2 hhas hsub
            go_wp2_with fail
            refine bodyPost_ret (v := .tuple #[.int .i64 rf, .int .i64 0]) (by simp [results, Tryz.results17, go_sem]) rfl ?_
            exact HEND.out _ Xk Mk Pk (T + 5000 * k) (by omega) HGk.out (by rw [HLE.out]; exact HNk.out)
          · obtain ⟨ak, hak⟩ : ∃ a, Nk.find rf = some a := Option.isSome_iff_exists.1 hhas
            obtain ⟨pk, hpk, _, _, _, _, hlk⟩ := hlk1 rf ak hak
            have hlook := hlk wr (Fr.refl _ _)
            have hPe := HPk.out hhas
            rw [hPe] at hpk
            subst hpk
            have HST := Lib.hid (nstep_any HNk.out hak (by have := HT.out; omega))
            have HLS := Lib.hid (show loopN N.fuel { N with last := rf } rf = (if (stepN Nk rf).2 then loopN (N.fuel - (k + 1)) (stepN Nk rf).1 rf else (stepN Nk rf).1) by rw [HLk.out, hsub, loopN_succ, if_pos hhas])
            rw [hPe] at HST
            have HPE := Lib.hid hPe
            have HHK := Lib.hid hhas
            have HFS := Lib.hid ((stepN_keep Nk rf).fuel.trans HFk.out)
            have heq := eql_same ⟨P rf, 0, none⟩ wr
            clear hlk1 hlk2 hhas hsub hak hlk hPe
            generalize hS : stepN Nk rf = S at *
            obtain ⟨N', b⟩ := S
            dsimp only at HST HLS HFS
            clear hS
            go_wp2_with fail
            refine HST.out.mono ?_
            rintro e w6 ⟨rfl, P6, hP6, X6, M6, hg6, hn6⟩
            have HG6 := Lib.hid (HGk.out.trans hg6)
            have HN6 := Lib.hid hn6
            have HP6 := Lib.hid (hP6 rf HHK.out)
            clear hP6 hg6 hn6
            rcases b with _ | _
            · go_wp2_with fail
              refine bodyPost_ret (v := .tuple #[.int .i64 rf, .int .i64 0]) (by simp [results, Tryz.results17, go_sem]) rfl ?_
              exact HEND.out _ X6 M6 P6 (T + 5000 * k + 5000) (by omega) HG6.out (by rw [HLS.out]; exact HN6.out)
            · go_wp2_with fail
              go_roundw
              case rel => exact ⟨k + 1, P6, X6, M6, N', by omega, by go_num, HG6, Lib.hid (HN6.out.up (by omega)), Lib.hid (fun _ => HP6.out.trans HPE.out), Lib.hid HLS.out, HFS⟩
              case measure => simp [intOf]; omega
        · obtain rfl : k = N.fuel := by omega
          have i1 : decide (((N.fuel : Nat) : Int) < ((N.fuel : Nat) : Int)) = false := decide_eq_false (by omega)
          have HLE := Lib.hid (show loopN N.fuel { N with last := rf } rf = Nk by rw [HLk.out, Nat.sub_self]; rfl)
          clear hlk1 hlk2
          go_wp2_with fail
          refine bodyPost_ret (v := .tuple #[.int .i64 rf, .int .i64 0]) (by simp [results, Tryz.results17, go_sem]) rfl ?_
          exact HEND.out _ Xk Mk Pk (T + 5000 * N.fuel) (by omega) HGk.out (by rw [HLE.out]; exact HNk.out)
end Go.Proofs.YtjjfglbcikaicaaGreat
namespace Go.Proofs.YtjjfglbcikaicaaGreat
open Go.RowKit Go.Maps
set_option linter.unusedVariables false
set_option linter.unusedSimpArgs false
theorem saidC_len (l : List (Int × Int)) : ∀ k, (saidC l k).length = 2 := fun _ => rfl
theorem saidC_one (l : List (Int × Int)) : ∀ k u, u ∈ saidC l k → u.oneCell' = true := fun k u h => by
  simp [saidC] at h
  rcases h with rfl | rfl <;> rfl
theorem info_cloneSd : (Tryz.prog.info? 63).map (fun i => (i.zero, i.size, i.bytes)) = some (some (.agg #[.int .i64 0, .int .i64 0]), 2, 16) := by kernel_rfl
set_option maxRecDepth 100000 in
set_option maxHeartbeats 400000 in
theorem cloneSd (A : Option Addr) (n c : Nat) (g : Nat → List Value) (w : World) (hR : Rd w 2 g A n) (hl : ∀ k, (g k).length = 2) (h1 : ∀ k u, u ∈ g k → u.oneCell' = true)
    (hA : A = none → n = 0) (hn : n * 16 ≤ 140737488355328) :
    Calls Tryz.prog 57 #[.slice A n c] w (ClonePost 63 2 n (flatC g n) w) := by
  obtain ⟨i0, hi, hz0, hz1, hz2⟩ := info_parts info_cloneSd
  have hnil := fun (w : World) => Lib.run_eql_slice_nil (P := Tryz.prog) w
  cases A with
  | none =>
    obtain rfl := hA rfl
    clear hR hl h1 hA hi hz0 hz1 hz2 hn
    go_enter Tryz.func57, Tryz.ntmps57
    go_wp2_with fail
    go_ret
    exact ⟨_, rfl, World.ownsRow_nil _ _ _ _, Below.refl _ _⟩
  | some a =>
    have hn0 : ∀ (o : Obj) j u, (flatC g n)[j]? = some u → (w.alloc o).cell? (a.add j) = some u := fun o j u hu => by
      obtain ⟨q1, q2, q3⟩ := flatC_at hl (by omega) hu
      obtain ⟨b, off, hab, hb, hc⟩ := hR (by omega)
      injection hab with hab
      subst hab
      have e : (⟨b, off, none⟩ : Addr).add j = ⟨b, off + j / 2 * 2 + j % 2, none⟩ := by
        have := Nat.div_add_mod' j 2
        unfold Addr.add
        split
        · rename_i h; subst h; simp
        · simp; omega
      rw [e, World.cell?_alloc_lt _ _ _ hb]
      exact hc _ q1 _ _ q3
    have HN := Lib.hid hn0
    have H1 := Lib.hid h1
    have HL := Lib.hid (flatC_length hl n)
    clear hR hl h1 hA hn0
    go_enter Tryz.func57, Tryz.ntmps57
    go_wp2_with (at_builtin; refine wpList_append_own _ rfl _ _ 59 rfl w.heap.size 63 i0 _ 2 16 Tryz.underlying59 hi hz0 hz1 hz2 rfl (by omega) (.slice (some ⟨w.heap.size, 0, none⟩) 0 0) 0 [] rfl (World.ownsRow_lit w #[] 0 (Nat.le_refl _) (by simp [maxLen]) rfl) a n c (flatC g n) rfl HL.out (HN.out _) (fun u hu => by obtain ⟨k, _, hk⟩ := flatC_mem hu; exact H1.out k u hk) (by unfold maxLen; omega) (by omega) (by simp) ?_; intro v1 w1 hown hgrow _; simp only [Nat.zero_add, List.nil_append] at hown)
    go_ret
    exact ⟨v1, rfl, hown, ((Below.refl _ _).alloc (Nat.le_refl _) _).grown hgrow (by simp) (by simp [Value.ownBlock])⟩

/-- a row of the call's own that holds what was said -/
def OwnSd (w : World) (base : Nat) (v : Value) (l : List (Int × Int)) : Prop := w.ownsRow base 63 2 v l.length (flatC (saidC l) l.length)
theorem OwnSd.rd {w : World} {base n c : Nat} {A : Option Addr} {l : List (Int × Int)} (h : OwnSd w base (.slice A n c) l) : n = l.length ∧ Rd w 2 (saidC l) A l.length := by
  obtain ⟨A', c', hv, _⟩ := own_any h
  injection hv with h1 h2 h3
  subst h1 h2 h3
  exact ⟨rfl, Rd.of_own (saidC_len l) (c := c) (base := base) (e := 63) h⟩
theorem OwnSd.below {w w1 : World} {base : Nat} {v : Value} {l : List (Int × Int)} (h : OwnSd w base v l) (hb : Below w.heap.size w w1) : OwnSd w1 base v l := own_keep h hb
set_option maxRecDepth 100000 in
set_option maxHeartbeats 4000000 in
theorem said_any {w : World} {X M : Nat → Prop} {base T p : Nat} {P : Int → Nat} {N : NdS} (h : NodeAt w X M base T p P N) (hT : T ≤ 1000000000000) :
    Calls Tryz.prog 28 #[.pointer (some ⟨p, 0, none⟩)] w fun e w' => ∃ A c, e = .returned (.slice A N.said.length c) ∧ OwnSd w' w.heap.size (.slice A N.said.length c) N.said ∧ Below w.heap.size w w' := by
  obtain ⟨A, c, sb, c9, hown, hbk, hlen, hsb, _⟩ := h.saidRow
  obtain ⟨A', c', hv, _, _, hA⟩ := own_any hown
  injection hv with e1 _ e3
  subst e1 e3
  have HC := Lib.hid (cloneSd A N.said.length c (saidC N.said) w (Rd.of_own (saidC_len _) (c := c) (base := base) (e := 63) hown) (saidC_len _) (saidC_one _) hA (by omega))
  clear h hown hbk hsb hA
  go_enter Tryz.func28, Tryz.ntmps28
  go_wp2_with fail
  refine HC.out.mono ?_
  rintro e w1 ⟨v1, rfl, hown1, hb1⟩
  have HO := Lib.hid hown1
  obtain ⟨A1, c1, rfl, _, _, _⟩ := own_any hown1
  have HB := Lib.hid hb1
  clear hown1 hb1
  go_wp2_with fail
  go_ret
  exact ⟨A1, c1, rfl, HO.out, HB.out⟩
set_option maxHeartbeats 4000000 in
theorem equalSd_same (A B : Option Addr) (n m c d : Nat) (l : List (Int × Int)) (w : World) (hn : n = l.length) (hm : m = l.length) (hl : n ≤ 9223372036854775807) (hR : Rd w 2 (saidC l) A l.length) (hS : Rd w 2 (saidC l) B l.length) :
    Calls Tryz.prog 29 #[.slice A n c, .slice B m d] w fun e w' => e = .returned (.bool true) ∧ Below w.heap.size w w' := by
  subst hn hm
  have HR := Lib.hid hR
  have HS := Lib.hid hS
  clear hR hS
  go_enter Tryz.func29, Tryz.ntmps29
  go_wp2_with fail
  go_loopw [5, 13] (fun _ x wr => ∃ k : Nat, k ≤ l.length ∧ x = .int .i64 k ∧ Below w.heap.size w wr) (fun _ x _ => l.length - (intOf x).toNat)
  case atStart => exact ⟨0, by omega, rfl, Below.refl _ _⟩
  case round =>
    obtain ⟨k, hk, rfl, hB⟩ := hrel
    have HB := Lib.hid hB
    by_cases hlt : k < l.length
    · obtain ⟨b, off, rfl, hb0, hcell⟩ := (HR.out.below hB) (by omega)
      obtain ⟨b', off', rfl, hb0', hcell'⟩ := (HS.out.below hB) (by omega)
      have c0 := hcell k hlt 0 _ rfl
      have c1 := hcell k hlt 1 _ rfl
      have e0 := hcell' k hlt 0 _ rfl
      have e1 := hcell' k hlt 1 _ rfl
      simp only [Nat.add_zero] at c0 e0
      clear hcell hcell' hB
      generalize l.getD k (0, 0) = r at *
      obtain ⟨r1, r2⟩ := r
      dsimp only at c0 c1 e0 e1
      have i1 : (0 : Int) ≤ (k : Int) := by omega
      have i2 : (k : Int) < (l.length : Int) := by omega
      go_wp2_with fail
      go_quiet (fail)
      go_wp2_with fail
      go_roundw
      case rel => exact ⟨k + 1, by omega, by go_num, below_drewN HB.out _⟩
      case measure => simp [intOf]; omega
    · obtain rfl : k = l.length := by omega
      go_wp2_with fail
      go_ret
      exact ⟨rfl, HB.out⟩
set_option maxHeartbeats 4000000 in
theorem spawned_any {w : World} {X M : Nat → Prop} {base T p : Nat} {P : Int → Nat} {N : NdS} (h : NodeAt w X M base T p P N) :
    Calls Tryz.prog 34 #[.pointer (some ⟨p, 0, none⟩)] w fun e w' => e = .returned (.int .i64 (N.spawned : Int)) ∧ w' = w := by
  obtain ⟨_, _, _, _, _, _, _, _, h4, _⟩ := h
  have c6 := h4.c6
  clear h4
  go_enter Tryz.func34, Tryz.ntmps34
  go_wp2_with fail
  go_ret
  exact ⟨rfl, rfl⟩
/-- letters have been told, and are the node's no more -/
theorem NodeG.out0 {w : World} {X : Nat → Prop} {base T p mb hb : Nat} {P : Int → Nat} {MA : Int → Nat → Prop} {ob sb : Option Nat} {N : NdS} (h : NodeG w X base T p mb hb P MA ob sb N) (hp : X p ∧ base ≤ p) : NodeG (w.setCell ⟨p, 8, none⟩ (.slice none 0 0)) X base T p mb hb P MA none sb (outN N) := by
  have hf : Fr (fun k => k = p) w (w.setCell ⟨p, 8, none⟩ (.slice none 0 0)) := Fr.setAt (Fr.refl _ w) _
  have hS : ∀ k, k = p → X k ∧ base ≤ k := fun k hk => hk ▸ hp
  have R := h.rest (X' := X) hf hS (fun k hk => .inl hk) (Nat.le_refl _) (fun k hk => .inl hk)
  obtain ⟨A2, c2, s1, s2⟩ := h.c2
  obtain ⟨v4, r1, r2⟩ := h.c4
  obtain ⟨v8, C, o1, o2⟩ := h.c8
  obtain ⟨v9, q1, q2, q3⟩ := h.c9
  obtain ⟨a1, a2, a3, a4, a5⟩ := h.ap
  exact ⟨set_other h.c0 (by decide), set_other h.c1 (by decide), ⟨A2, c2, set_other s1 (by decide), s2.fr hf (fun k hk => (hS k hk).2)⟩, set_other h.c3 (by decide), ⟨v4, set_other r1 (by decide), r2.fr hf (fun k hk => (hS k hk).1) (fun k hk => .inl hk)⟩, set_other h.c5 (by decide), set_other h.c6 (by decide), set_other h.c7 (by decide),
    ⟨.slice none 0 0, C, set_this o1, World.ownsRow_nil _ _ _ _, o2.len, fun i hi => absurd hi (by show ¬ i < 0; omega), rfl⟩, ⟨v9, set_other q1 (by decide), hf.row q2 (fun k hk hs => (a5 k (q3.symm.trans hk)).1 hs), q3⟩, set_fz h.fz, R.am, R.hm, R.acts, h.disj, fun a ha k hk => by
      obtain ⟨o1, o2, o3, o4, o5⟩ := h.own a ha k hk
      exact ⟨o1, o2, o3, (fun e => by cases e), o5⟩, ⟨a1, a2, a3, (fun k hk => by cases hk), a5⟩, by
      have := h.lim
      exact ⟨by show 0 + 201 * N.acts.length ≤ T; omega, this.2⟩⟩
/-- the letters that were told lie in blocks of S, which the node writes no more -/
def OutPost (X M : Nat → Prop) (base T p : Nat) (P : Int → Nat) (N : NdS) (w : World) (e : Ending) (w' : World) : Prop :=
  ∃ A c S M', e = .returned (.slice A N.out.length c) ∧ N.out.length ≤ c ∧ c ≤ 9223372036854775807 ∧ RdL w' S A N.out.length (nthL N.out) ∧ (∀ k, S k → ¬ M' k) ∧ Gr X M w X M' w' ∧ NodeAt w' X M' base T p P (outN N)
set_option maxRecDepth 100000 in
set_option maxHeartbeats 4000000 in
theorem out_any {w : World} {X M : Nat → Prop} {base T p : Nat} {P : Int → Nat} {N : NdS} (h : NodeAt w X M base T p P N) :
    Calls Tryz.prog 21 #[.pointer (some ⟨p, 0, none⟩)] w (OutPost X M base T p P N w) := by
  have hpX := h.pM
  obtain ⟨h1, h2, h3, mb, hb, MA, ob, sb, h4, h5⟩ := h
  obtain ⟨v8, C, c8, ho⟩ := h4.c8
  obtain ⟨A, c, rfl, k1, k2, k3⟩ := own_any ho.row
  have hG := h4.out0 hpX.2
  have hfz := h4.fz 8
  have hap := h4.ap
  have hown := h4.own
  have HF := Lib.hid (show OutPost X M base T p P N w (.returned (.slice A N.out.length c)) (w.setCell ⟨p, 8, none⟩ (.slice none 0 0)) from by
    have hfr : Fr (fun k => k = p) w (w.setCell ⟨p, 8, none⟩ (.slice none 0 0)) := Fr.setAt (Fr.refl _ w) _
    refine ⟨A, c, fun k => ¬ X k ∨ ob = some k, fun k => M k ∧ ob ≠ some k, rfl, k1, k2, ?_, fun k hk hm => ?_, ⟨(Fr.refl M w).set (.inl hpX.1) _, fun _ h => h, fun _ h => .inl h, fun k hk => .inl hk.1⟩, { h1 with }, fun k hk => by simpa using h2 k hk, fun k hk => h3 k hk.1, mb, hb, MA, none, sb, hG, ⟨h5.p, fun e => (hap.2.2.2.1 p e).1 rfl⟩, ⟨h5.mb, fun e => (hap.2.2.2.1 mb e).2.1 rfl⟩, ⟨h5.hb, fun e => (hap.2.2.2.1 hb e).2.2.1 rfl⟩, fun k hk => (by cases hk), fun k hk => ⟨h5.sb k hk, fun e => (hap.2.2.2.1 k e).2.2.2 hk⟩, fun a ha k hk => ⟨h5.act a ha k hk, fun e => (hown a ha k hk).2.2.2.1 e⟩⟩
    · intro h0
      obtain ⟨g, cap, hv, hb0, hlt, hc⟩ := own_form ho.row h0
      injection hv with e1 e2 e3
      subst e1 e3
      have hog : ob = some g := ho.blk.symm
      have hgp : g ≠ p := (hap.2.2.2.1 g hog).1
      refine ⟨g, 0, rfl, by simpa using hlt, .inr hog, C, fun i hi => ⟨?_, fun j u hu => ?_⟩⟩
      · exact isL_frame hfr.size (fun k hk hl => ⟨.inl hk, hfr.block k hl (fun e => hk (e ▸ hpX.2.1))⟩) (ho.each i hi)
      · have hj : j < 9 := by
          have := (List.getElem?_eq_some_iff.1 hu).1
          rw [ho.len i] at this
          exact this
        have := own_cellC ho.row ho.len hi hj
        rw [Nat.zero_add]
        exact hfr.cell (this.trans hu) hgp
    · rcases hk with hk | hk
      · exact hk (h3 k hm.1).1
      · exact hm.2 hk)
  clear h1 h2 h3 h4 h5 hG hap hown ho k3
  go_enter Tryz.func21, Tryz.ntmps21
  go_wp2_with fail
  refine bodyPost_ret (v := .slice A N.out.length c) (by simp [results, Tryz.results21, go_sem]) rfl ?_
  exact HF.out
set_option maxRecDepth 100000 in
set_option maxHeartbeats 4000000 in
theorem home_any {w : World} {X M : Nat → Prop} {base T p : Nat} {P : Int → Nat} {N : NdS} (h : NodeAt w X M base T p P N) (ref dst : Int) (hr : Wf ref) (hT : T < 1000000000000) :
    Calls Tryz.prog 23 #[.pointer (some ⟨p, 0, none⟩), .int .i64 ref, .int .i64 dst] w (NdPost X M base (T + 1) p P (homeN N ref dst) w (.tuple #[])) := by
  obtain ⟨h1, h2, h3, mb, hb, MA, ob, sb, h4, h5⟩ := h
  obtain ⟨n, k1, k2⟩ := h4.hm
  obtain ⟨w', hrun, ho, hg⟩ := OwnM.store und_homes k1 (by unfold maxLen; omega) ref (.int .i64 dst) hr
  have c5 := h4.c5
  have hap := h4.ap
  have hf : Fr (fun k => k = hb) w w' := Fr.of_grown hg (fun k hk => .inl (by injection hk with hk; exact hk.symm))
  have hS : ∀ k, k = hb → X k ∧ base ≤ k := fun k hk => hk ▸ h3 hb h5.hb
  have hp : ¬ p = hb := hap.2.1
  have hl := h4.lt
  obtain ⟨A2, c2, s1, s2⟩ := h4.c2
  obtain ⟨v4, r1, r2⟩ := h4.c4
  obtain ⟨v8, C, o1, o2⟩ := h4.c8
  obtain ⟨v9, q1, q2, q3⟩ := h4.c9
  have HF := Lib.hid (show NdPost X M base (T + 1) p P (homeN N ref dst) w (.tuple #[]) (.returned (.tuple #[])) w' from by
    refine ⟨rfl, X, M, ⟨hf.weak (fun k hk => hk ▸ h5.hb), fun _ h => h, fun _ h => .inl h, fun _ h => .inl h⟩, { h1 with }, fun k hk => Nat.lt_of_lt_of_le (h2 k hk) hf.size, h3, mb, hb, MA, ob, sb, ?_, ⟨h5.p, h5.mb, h5.hb, h5.ob, h5.sb, h5.act⟩⟩
    exact ⟨hf.cell h4.c0 hp, hf.cell h4.c1 hp, ⟨A2, c2, hf.cell s1 hp, s2.fr hf (fun k hk => (hS k hk).2)⟩, hf.cell h4.c3 hp, ⟨v4, hf.cell r1 hp, r2.fr hf (fun k hk => (hS k hk).1) (fun k hk => .inl hk)⟩, hf.cell h4.c5 hp, hf.cell h4.c6 hp, hf.cell h4.c7 hp, ⟨v8, C, hf.cell o1 hp, o2.fr hf (fun k hk => (hS k hk).1) (fun k hk => .inl hk) (fun k hk hs => (hap.2.2.2.1 k hk).2.2.1 hs)⟩, ⟨v9, hf.cell q1 hp, hf.row q2 (fun k hk hs => (hap.2.2.2.2 k (q3.symm.trans hk)).2.2 hs), q3⟩,
      fun o => (hf.frozen hl.1 hp).trans (h4.fz o), h4.am.fr hf hap.2.2.1, ⟨_, ho.congr (fun x _ => by show (if x = ref then some dst else N.homes x).map _ = _; split <;> rfl), by split <;> omega⟩, fun a ha => by
        obtain ⟨b1, rb1, kb1, ib1, hh⟩ := h4.acts a ha
        exact ⟨b1, rb1, kb1, ib1, hh.fr hf (fun k hk => (hS k hk).1) (fun k hk => .inl hk) (fun k hk => (hS k hk).2) (by omega) (fun k hk hs => (h4.own a ha k hk).2.2.1 hs)⟩, h4.disj, h4.own, hap, by have := h4.lim; exact ⟨by show N.out.length + 201 * N.acts.length ≤ T + 1; omega, by show N.said.length ≤ T + 1; omega⟩⟩)
  clear h1 h2 h3 h4 h5 k1 ho hg hf hS hl s1 s2 r1 r2 o1 o2 q1 q2 q3 hap
  go_enter Tryz.func23, Tryz.ntmps23
  go_wp2_with fail
  exact bodyPost_end (results_none rfl _ _ _) rfl HF.out
end Go.Proofs.YtjjfglbcikaicaaGreat
namespace Go.Proofs.YtjjfglbcikaicaaGreat
open Go.RowKit Go.Maps
set_option linter.unusedVariables false
set_option linter.unusedSimpArgs false
theorem mkActs : ∀ w, (Instr.makeMap 99 none).run Tryz.prog w = .ok (.map (some w.heap.size)) (w.alloc (.map #[] 0)) := fun w => by kernel_rfl
theorem mkHomes : ∀ w, (Instr.makeMap 100 none).run Tryz.prog w = .ok (.map (some w.heap.size)) (w.alloc (.map #[] 0)) := fun w => by kernel_rfl
theorem rowsOk_nil : RowsOk [] := ⟨⟨Nat.zero_le _, fun k hk => absurd hk (by show ¬ k < 0; omega)⟩, fun r hr => by cases hr⟩
/-- a new node: X0, what others may write -/
def NewPost (X0 : Nat → Prop) (base : Nat) (N : NdS) (w : World) (e : Ending) (w' : World) : Prop :=
  ∃ p P, e = .returned (.tuple #[.pointer (some ⟨p, 0, none⟩), .int .i64 0]) ∧ w.heap.size ≤ p ∧ Fr (fun _ => False) w w' ∧ NodeAt w' (fun k => X0 k ∨ w.heap.size ≤ k ∧ k < w'.heap.size) (fun k => w.heap.size ≤ k ∧ k < w'.heap.size) base 0 p P N
set_option maxRecDepth 100000 in
set_option maxHeartbeats 4000000 in
theorem new_any (X0 : Nat → Prop) (base : Nat) (id : Int) (A : Option Addr) (c : Nat) (L : List (List Stp)) (fuel : Nat) (w : World) (hX : ∀ k, X0 k → k < w.heap.size) (hb : base ≤ w.heap.size) (hS : ScrsAt w base A c L) (hL : ∀ l, l ∈ L → StpsWf l) (hid : 1 ≤ id ∧ id ≤ 8) (hf : 1 ≤ fuel ∧ fuel ≤ 10000) :
    Calls Tryz.prog 15 #[.int .i64 id, .iface 25 (.slice A L.length c), .int .i64 (fuel : Int)] w (NewPost X0 base (newN id L fuel) w) := by
  have g1 : decide (id < 1) = false := decide_eq_false (by omega)
  have g2 : decide ((8 : Int) < id) = false := decide_eq_false (by omega)
  have g3 : decide ((fuel : Int) < 1) = false := decide_eq_false (by omega)
  have g4 : decide ((10000 : Int) < (fuel : Int)) = false := decide_eq_false (by omega)
  have m1 := mkActs
  have m2 := mkHomes
  have HFIN := Lib.hid (show NewPost X0 base (newN id L fuel) w (.returned (.tuple #[.pointer (some ⟨w.heap.size + 2, 0, none⟩), .int .i64 0])) (((w.alloc (.map #[] 0)).alloc (.map #[] 0)).alloc (.cells #[.int .i64 id, .int .i64 (fuel : Int), .iface 25 (.slice A L.length c), .map (some w.heap.size), .slice none 0 0, .map (some (w.heap.size + 1)), .int .i64 0, .int .i64 0, .slice none 0 0, .slice none 0 0] 103)) from by
    obtain ⟨W, hW⟩ : ∃ W, W = ((w.alloc (.map #[] 0)).alloc (.map #[] 0)).alloc (.cells #[.int .i64 id, .int .i64 (fuel : Int), .iface 25 (.slice A L.length c), .map (some w.heap.size), .slice none 0 0, .map (some (w.heap.size + 1)), .int .i64 0, .int .i64 0, .slice none 0 0, .slice none 0 0] 103) := ⟨_, rfl⟩
    rw [← hW]
    have hfr : Fr (fun _ => False) w W := by rw [hW]; exact (((Fr.refl _ w).alloc _).alloc _).alloc _
    have hsz : W.heap.size = w.heap.size + 3 := by rw [hW]; simp
    have hcell : ∀ j u, ([.int .i64 id, .int .i64 (fuel : Int), .iface 25 (.slice A L.length c), .map (some w.heap.size), .slice none 0 0, .map (some (w.heap.size + 1)), .int .i64 0, .int .i64 0, .slice none 0 0, .slice none 0 0] : List Value)[j]? = some u → W.cell? ⟨w.heap.size + 2, j, none⟩ = some u := fun j u hj => by
      rw [hW]
      have := cell_newL ((w.alloc (.map #[] 0)).alloc (.map #[] 0)) [.int .i64 id, .int .i64 (fuel : Int), .iface 25 (.slice A L.length c), .map (some w.heap.size), .slice none 0 0, .map (some (w.heap.size + 1)), .int .i64 0, .int .i64 0, .slice none 0 0, .slice none 0 0] 103 (w.heap.size + 2) (by simp) j u hj
      rw [Addr.add_lit, Nat.zero_add] at this
      exact this
    have o1 : OwnM W w.heap.size 0 (fun _ => none) := by
      have h0 := OwnM.made w
      rw [hW]
      exact (h0.fr (S := fun _ => False) ((Fr.refl _ _).alloc _) (fun h => h)).fr (S := fun _ => False) ((Fr.refl _ _).alloc _) (fun h => h)
    have o2 : OwnM W (w.heap.size + 1) 0 (fun _ => none) := by
      have h0 := OwnM.made (w.alloc (.map #[] 0))
      have h1 : OwnM ((w.alloc (.map #[] 0)).alloc (.map #[] 0)) (w.heap.size + 1) 0 (fun _ => none) := by simpa using h0
      rw [hW]
      exact h1.fr (S := fun _ => False) ((Fr.refl _ _).alloc _) (fun h => h)
    refine ⟨w.heap.size + 2, fun _ => 0, rfl, by omega, hfr, ⟨hid, hf, Nat.zero_le _, List.Pairwise.nil, fun a ha => (by cases ha), rowsOk_nil, Nat.zero_le _, hL⟩, fun k hk => ?_, fun k hk => ⟨.inr hk, by omega⟩, w.heap.size, w.heap.size + 1, fun _ _ => False, none, none, ?_, ⟨by show _ ∧ _; omega, by show _ ∧ _; omega, by show _ ∧ _; omega, fun k hk => (by cases hk), fun k hk => (by cases hk), fun a ha => (by cases ha)⟩⟩
    · rcases hk with hk | hk
      · exact Nat.lt_of_lt_of_le (hX k hk) hfr.size
      · exact hk.2
    · exact ⟨hcell 0 _ rfl, hcell 1 _ rfl, ⟨A, c, hcell 2 _ rfl, hS.fr hfr (fun _ h => h.elim)⟩, hcell 3 _ rfl, ⟨_, hcell 4 _ rfl, none, 0, fun _ => .slice none 0 0, fun _ => .slice none 0 0, rfl, ⟨World.ownsRow_nil _ _ _ _, fun i hi => absurd hi (by show ¬ i < 0; omega), fun i j hi => absurd hi (by show ¬ i < 0; omega), fun i hi => absurd hi (by show ¬ i < 0; omega)⟩, fun k hk => (by cases hk), fun i hi => absurd hi (by show ¬ i < 0; omega)⟩, hcell 5 _ rfl, hcell 6 _ rfl, hcell 7 _ rfl,
        ⟨_, fun _ => [.int .i64 0, .int .i64 0, .int .i64 0, .int .i64 0, .int .i64 0, .int .i64 0, .int .i64 0, .int .i64 0, .int .i64 0], hcell 8 _ rfl, World.ownsRow_nil _ _ _ _, fun _ => rfl, fun i hi => absurd hi (by show ¬ i < 0; omega), rfl⟩, ⟨_, hcell 9 _ rfl, World.ownsRow_nil _ _ _ _, rfl⟩, fun o => by rw [hW]; simp [go_sem], o1.congr (fun x _ => rfl), ⟨0, o2.congr (fun x _ => rfl), Nat.le_refl _⟩, fun a ha => (by cases ha), fun a b ha => (by cases ha), fun a ha => (by cases ha), ⟨by omega, by omega, by omega, fun k hk => (by cases hk), fun k hk => (by cases hk)⟩, ⟨Nat.le_refl _, Nat.le_refl _⟩⟩)
  clear hX hb hS hL hid hf
  go_enter Tryz.func15, Tryz.ntmps15
  go_wp2_with fail
  refine bodyPost_ret (v := .tuple #[.pointer (some ⟨w.heap.size + 2, 0, none⟩), .int .i64 0]) (by simp [results, Tryz.results15, go_sem]) rfl ?_
  exact HFIN.out
set_option maxRecDepth 100000 in
set_option maxHeartbeats 4000000 in
theorem drop_any {w : World} {X M : Nat → Prop} {base T p : Nat} {P : Int → Nat} {N : NdS} (h : NodeAt w X M base T p P N) (ref : Int) (hwr : Wf ref) :
    Calls Tryz.prog 32 #[.pointer (some ⟨p, 0, none⟩), .int .i64 ref] w (NdPost X M base T p P (dropN N ref) w (.int .i64 (if N.has ref = true then 0 else 4))) := by
  have HN := Lib.hid h
  have hplt := h.p_lt
  obtain ⟨mb, c3, hmb, _, hlk1, hlk2⟩ := h.look
  rcases hhas : N.has ref with _ | _
  · have hlook := hlk2 ref hwr hhas w (Fr.refl _ w)
    have HE := Lib.hid (show dropN N ref = N by unfold dropN; rw [hhas]; rfl)
    clear h hlk1 hlk2
    go_enter Tryz.func32, Tryz.ntmps32
    go_wp2_with fail
    refine bodyPost_ret (v := .int .i64 4) (by simp [results, Tryz.results32, go_sem]) rfl ?_
    rw [HE.out]
    exact ⟨rfl, X, M, Gr.refl X M w, HN.out⟩
  · obtain ⟨a, ha⟩ : ∃ a, N.find ref = some a := Option.isSome_iff_exists.1 hhas
    obtain ⟨pa, -, _, _, _, _, hlk⟩ := hlk1 ref a ha
    have hlook := hlk w (Fr.refl _ w)
    obtain ⟨A, c, c4, hr⟩ := h.rows
    have hok := h.ok.rows
    have HOK := Lib.hid (hok.gone ref)
    have HG0 := Lib.hid (lgone_any X (.slice A N.rows.length c) N.rows ref false ⟨#[]⟩ w hr hok.ok h.xlt)
    have HHAS := Lib.hid hhas
    have HE := Lib.hid (show dropN N ref = { N.delA ref with rows := goneL N.rows ref } by unfold dropN; rw [hhas]; rfl)
    clear h hlk1 hlk2 hlk ha hr hok hhas
    unfold GonePost at HG0
    generalize (tellL N.rows ref false ⟨#[]⟩) = tl at *
    go_enter Tryz.func32, Tryz.ntmps32
    go_wp2_with fail
    refine HG0.out.mono ?_
    rintro e w1 ⟨A1, n1, c1, L, d, y, rfl, hb, hl1, -, -⟩
    have HB := Lib.hid hb
    have HL1 := Lib.hid hl1
    clear hb hl1
    go_wp2_with fail
    refine (change_nd (HN.out.below HB.out) HL1.out HOK.out).mono ?_
    rintro e w2 ⟨rfl, X2, M2, hg, hn⟩
    obtain ⟨mb', c3', hdel⟩ := hn.del (r := ref) HHAS.out
    obtain ⟨w3, hrun, hg3, hn3⟩ := hdel 0
    have HG3 := Lib.hid (((Gr.new (Fr.of_below HB.out)).trans hg).trans hg3)
    have HN3 := Lib.hid hn3
    clear hg hn hg3 hn3 hdel
    go_wp2_with fail
    refine bodyPost_ret (v := .int .i64 0) (by simp [results, Tryz.results32, go_sem]) rfl ?_
    rw [HE.out]
    exact ⟨rfl, X2, M2, HG3.out, HN3.out⟩
set_option maxRecDepth 100000 in
set_option maxHeartbeats 4000000 in
theorem box_any {w : World} {X M : Nat → Prop} {base T p : Nat} {P : Int → Nat} {N : NdS} (h : NodeAt w X M base T p P N) {ref : Int} {a : ActS} (ha : N.find ref = some a) :
    Calls Tryz.prog 25 #[.pointer (some ⟨p, 0, none⟩), .int .i64 ref] w fun e w' => ∃ v C, e = .returned (.tuple #[v, .int .i64 0]) ∧ LRow w' w.heap.size v a.box.length C (nthL a.box) ∧ Below w.heap.size w w' := by
  have hplt := h.p_lt
  obtain ⟨hm, hr⟩ := find_some ha
  have hok := h.ok.act a hm
  obtain ⟨mb, c3, hmb, _, hlk1, hlk2⟩ := h.look
  obtain ⟨pa, rfl, hpl, _, _, _, hlk⟩ := hlk1 ref a ha
  have hlook := hlk w (Fr.refl _ w)
  obtain ⟨pa, b, rb, kb, ib, MA, mb', hpa, -, hA, -⟩ := h.act ha
  subst hpa
  obtain ⟨A2, c2, a2, k1, k2, hR⟩ := hA.a2
  have HC := Lib.hid (leach_any a.box.length c2 A2 (nthL a.box) _ w (by have := hok.box.1; omega) hR (fun i hi => by have := (hok.box.2.2 _ (nthL_mem hi)).2.2.2.2.2; omega))
  clear h hlk1 hlk2 hlk hA hR hok ha hm
  go_enter Tryz.func25, Tryz.ntmps25
  go_wp2_with fail
  refine HC.out.mono ?_
  rintro e w1 ⟨v, C, rfl, hown, hCl, hCv, hb2⟩
  have HLR := Lib.hid (LRow.mk (arg := nthL a.box) hown hCl hCv)
  have HB := Lib.hid hb2
  clear hown hCl hCv hb2
  go_wp2_with fail
  go_ret2
  exact ⟨v, C, rfl, HLR.out, HB.out⟩
end Go.Proofs.YtjjfglbcikaicaaGreat
namespace Go.Proofs.YtjjfglbcikaicaaGreat
open Go.RowKit
set_option linter.unusedVariables false
set_option linter.unusedSimpArgs false
/-- a script that lies in one new block -/
theorem scrAt_of {w : World} {base b n c : Nat} {l : List Stp} {vo : Nat → Value} (hn : l.length = n) (hc : n ≤ c) (hm : c ≤ 1000000) (hb : b < base) (h : ∀ k, k < n → ∀ j u, (stC l vo k)[j]? = some u → w.cell? ⟨b, k * 4 + j, none⟩ = some u) (ho : ∀ k, k < n → NumAt w base (vo k) (nthS l k).ok) : ScrAt w base (some ⟨b, 0, none⟩) c l vo :=
  ⟨by omega, by omega, by omega, fun _ => ⟨b, 0, rfl, hb, fun k hk j u hu => by rw [Nat.zero_add]; exact h k (by omega) j u hu⟩, fun k hk => ho k (by omega)⟩
/-- a script that was just built -/
theorem scrAt_new {w : World} {base b n : Nat} {l : List Stp} {vo : Nat → Value} (hn : l.length = n) (h6 : n ≤ 1000000) (hb : b < base) (h : ∀ j u, (flatC (stC l vo) n)[j]? = some u → w.cell? ⟨b, j, none⟩ = some u) (ho : ∀ k, k < n → NumAt w base (vo k) (nthS l k).ok) : ScrAt w base (some ⟨b, 0, none⟩) n l vo :=
  scrAt_of hn (Nat.le_refl _) h6 hb (fun k hk j u hu => h _ u (by
    have hj : j < 4 := (List.getElem?_eq_some_iff.1 hu).1
    rw [flatC_get (sz := 4) (fun k => rfl) hk hj]
    exact hu)) ho
theorem numAt_nil (w : World) (base : Nat) : NumAt w base (.slice none 0 0) [] := ⟨none, 0, rfl, Nat.le_refl _, by omega, fun h => by simp at h⟩
/-- one script alone -/
theorem scrs_one {w : World} {base b c n : Nat} {A : Option Addr} {l : List Stp} {vo : Nat → Value} (hn : l.length = n) (hb : b < base) (hc : w.cell? ⟨b, 0, none⟩ = some (.slice A n c)) (h : ScrAt w base A c l vo) : ScrsAt w base (some ⟨b, 0, none⟩) 1 [l] := by
  refine ⟨Nat.le_refl _, by omega, by simp, fun _ => ⟨b, 0, rfl, hb⟩, fun i hi => ?_⟩
  have hi' : i < 1 := hi
  obtain rfl : i = 0 := by omega
  exact ⟨b, 0, A, c, vo, rfl, hb, by simpa [hn] using hc, h⟩
def fiveL : List Stp := [⟨1, 5, 0, []⟩]
def fiveN : NdS := newN 1 [fiveL] 10
theorem fiveN_spawn : (spawnN fiveN ⟨#[48]⟩).2 = (1001, 0) := by kernel_rfl
theorem fiveN_turn : (turnN (spawnN fiveN ⟨#[48]⟩).1).2 = (1001, 0) := by kernel_rfl
theorem fiveN_said : (turnN (spawnN fiveN ⟨#[48]⟩).1).1.said = [(1001, 5)] := by kernel_rfl
theorem fiveN_acts : (turnN (spawnN fiveN ⟨#[48]⟩).1).1.acts.length = 0 := by kernel_rfl
theorem stpsWf_five : ∀ l, l ∈ [fiveL] → StpsWf l := fun l hl => by
  rw [List.mem_singleton] at hl
  subst hl
  intro s hs
  have : s = ⟨1, 5, 0, []⟩ := by simpa [fiveL] using hs
  subst this
  exact ⟨Wf.of (by decide) (by decide), Wf.of (by decide) (by decide)⟩
set_option maxRecDepth 100000 in
set_option maxHeartbeats 8000000 in
theorem nodes_any (w : World) : Calls Tryz.prog 14 #[] w fun e w' => e = .returned (.bool true) ∧ Below w.heap.size w w' := by
  obtain ⟨W, hW⟩ : ∃ W, W = (w.alloc (.cells #[.int .i64 1, .int .i64 5, .int .i64 0, .slice none 0 0] 28)).alloc (.cells #[.slice (some ⟨w.heap.size, 0, none⟩) 1 1] 29) := ⟨_, rfl⟩
  have HB := Lib.hid (show Below w.heap.size w W by rw [hW]; exact ((Below.refl _ _).alloc (Nat.le_refl _) _).alloc (by simp) _)
  have hsz : W.heap.size = w.heap.size + 2 := by rw [hW]; simp
  have hcs : ∀ j u, ([.int .i64 1, .int .i64 5, .int .i64 0, .slice none 0 0] : List Value)[j]? = some u → W.cell? ⟨w.heap.size, j, none⟩ = some u := fun j u hj => by
    rw [hW]
    have := cell_newL w [.int .i64 1, .int .i64 5, .int .i64 0, .slice none 0 0] 28 _ rfl j u hj
    rw [Addr.add_lit, Nat.zero_add] at this
    exact (World.cell?_alloc_lt _ _ ⟨w.heap.size, j, none⟩ (by simp)).trans this
  have hc1 : W.cell? ⟨w.heap.size + 1, 0, none⟩ = some (.slice (some ⟨w.heap.size, 0, none⟩) 1 1) := by rw [hW]; simp [go_sem]
  have hscr : ScrsAt W (w.heap.size + 2) (some ⟨w.heap.size + 1, 0, none⟩) 1 [fiveL] := by
    refine scrs_one (l := fiveL) (vo := fun _ => .slice none 0 0) rfl (by omega) hc1 (scrAt_of (n := 1) rfl (Nat.le_refl _) (by omega) (by omega) (fun k hk j u hu => ?_) (fun k hk => ?_))
    · obtain rfl : k = 0 := by omega
      rw [Nat.zero_mul, Nat.zero_add]
      exact hcs j u hu
    · obtain rfl : k = 0 := by omega
      exact numAt_nil _ _
  have HNEW := Lib.hid (new_any (fun _ => False) (w.heap.size + 2) 1 _ 1 [fiveL] 10 W (fun _ h => h.elim) (by omega) hscr stpsWf_five ⟨by omega, by omega⟩ ⟨by omega, by omega⟩)
  have HW := Lib.hid hW
  clear hW hcs hc1 hscr
  go_enter Tryz.func14, Tryz.ntmps14
  go_wp2_with fail
  rw [← HW.out]
  refine HNEW.out.mono ?_
  rintro e w1 ⟨p, P, rfl, hp, hf1, hn1⟩
  have HF1 := Lib.hid hf1
  have HSP := Lib.hid (spawn_any 48 (hn1.up (T' := 1000) (by omega)) (by show 0 + 201 * 0 + 201 ≤ 1000; omega) (by omega))
  have HX := Lib.hid (show ∀ k, (fun k => W.heap.size ≤ k ∧ k < w1.heap.size) k → w.heap.size ≤ k from fun k hk => by have := hk.1; omega)
  clear hn1 hf1 HNEW
  go_wp2_with fail
  refine HSP.out.mono ?_
  rintro e w2 ⟨P2, -, rfl, X2, M2, hg2, hn2⟩
  have HG2 := Lib.hid hg2
  have HTN := Lib.hid (turn_any hn2 (by omega))
  have HE2 := Lib.hid fiveN_spawn
  have e1 : (spawnN fiveN ⟨#[48]⟩).2.1 = 1001 := by rw [fiveN_spawn]
  have e2 : (spawnN fiveN ⟨#[48]⟩).2.2 = 0 := by rw [fiveN_spawn]
  change (spawnN (newN 1 [fiveL] 10) ⟨#[48]⟩).2.1 = 1001 at e1
  change (spawnN (newN 1 [fiveL] 10) ⟨#[48]⟩).2.2 = 0 at e2
  rw [e1, e2]
  clear hg2 hn2 HSP e1 e2
  go_wp2_with fail
  refine HTN.out.mono ?_
  rintro e w3 ⟨rfl, P3, X3, M3, hg3, hn3⟩
  have HG3 := Lib.hid hg3
  have HN3 := Lib.hid hn3
  have e1 : (turnN (spawnN (newN 1 [fiveL] 10) ⟨#[48]⟩).1).2.1 = 1001 := by have := fiveN_turn; unfold fiveN at this; rw [this]
  have e2 : (turnN (spawnN (newN 1 [fiveL] 10) ⟨#[48]⟩).1).2.2 = 0 := by have := fiveN_turn; unfold fiveN at this; rw [this]
  have e3 := fiveN_said
  have e4 := fiveN_acts
  unfold fiveN at e3 e4
  rw [e1, e2]
  generalize (turnN (spawnN (newN 1 [fiveL] 10) ⟨#[48]⟩).1).1 = N3 at *
  have HS3 := Lib.hid e3
  have HA3 := Lib.hid e4
  clear hg3 hn3 HTN e1 e2 e3 e4
  go_wp2_with fail
  have g0 : (w3.alloc (.cells #[.int .i64 0, .int .i64 0] 31)).cell? ⟨w3.heap.size, 0, none⟩ = some (.int .i64 0) := by simp [go_sem]
  have g1 : (w3.alloc (.cells #[.int .i64 0, .int .i64 0] 31)).cell? ⟨w3.heap.size, 1, none⟩ = some (.int .i64 0) := by simp [go_sem]
  refine (good_two 0 0 _ 2 _ g0 g1).mono ?_
  rintro e w4 ⟨rfl, hw4⟩
  have hf4 : Fr (fun _ => False) w3 w4 := by rw [← hw4]; exact (Fr.refl _ _).alloc _
  have HN4 := Lib.hid (HN3.out.new hf4 (fun _ h => h))
  have HF4 := Lib.hid hf4
  have HSD := Lib.hid (said_any HN4.out (by omega))
  clear g0 g1 hw4 hf4
  go_wp2_with fail
  refine HSD.out.mono ?_
  rintro e w5 ⟨A5, c5, rfl, ho5, hb5⟩
  have HF5 := Lib.hid (Fr.of_below (S := fun _ => False) hb5)
  have HN5 := Lib.hid (HN4.out.new HF5.out (fun _ h => h))
  rw [HS3.out] at ho5
  have HO5 := Lib.hid ho5
  have hz5 := hb5.size
  rw [HS3.out]
  clear HSD ho5 hb5
  go_wp2_with fail
  obtain ⟨W6, hW6⟩ : ∃ W6, W6 = w5.alloc (.cells #[.int .i64 1001, .int .i64 5] 63) := ⟨_, rfl⟩
  have hb6 : Below w5.heap.size w5 W6 := by rw [hW6]; exact (Below.refl _ _).alloc (Nat.le_refl _) _
  have HEQ := Lib.hid (equalSd_same A5 (some ⟨w5.heap.size, 0, none⟩) 1 1 c5 1 [(1001, 5)] W6 rfl rfl (by omega) (OwnSd.rd (n := 1) (HO5.out.below hb6)).2 (fun _ => ⟨w5.heap.size, 0, rfl, by rw [hW6]; simp, fun k hk j u hu => by
    have hk' : k < 1 := hk
    obtain rfl : k = 0 := by omega
    have := cell_newL w5 [.int .i64 1001, .int .i64 5] 63 _ rfl j u hu
    rw [Addr.add_lit, Nat.zero_add] at this
    rw [hW6, Nat.zero_mul, Nat.zero_add]
    exact this⟩))
  rw [hW6] at HEQ
  have HF6 := Lib.hid (Fr.of_below (S := fun _ => False) hb6)
  rw [hW6] at HF6
  clear hW6 hb6
  refine HEQ.out.mono ?_
  rintro e w7 ⟨rfl, hb7⟩
  have HF7 := Lib.hid (HF6.out.trans' (Fr.of_below hb7))
  have HN7 := Lib.hid (HN5.out.new HF7.out (fun _ h => h))
  have HR7 := Lib.hid (refs_any HN7.out)
  clear hb7 HEQ
  go_wp2_with fail
  refine HR7.out.mono ?_
  rintro e w8 ⟨A8, c8, rfl, -, hb8⟩
  have HF8 := Lib.hid (Fr.of_below (S := fun _ => False) hb8)
  rw [HA3.out]
  clear hb8
  go_wp2_with fail
  refine bodyPost_ret (v := .bool true) (by simp [results, Tryz.results14, go_sem]) rfl ⟨rfl, ?_⟩
  have hlo : ∀ k, w.heap.size + 2 ≤ k → w.heap.size ≤ k := fun k hk => by omega
  have h13 := (HG2.out.trans HG3.out).fr
  have hA : Fr (fun k => w.heap.size ≤ k) w w3 := ((Fr.of_below HB.out).trans (HF1.out.weak (fun _ h => h.elim)) (fun k hk => .inl hk)).trans (h13.weak (fun k hk => HX.out k hk)) (fun k hk => .inl hk)
  have hB : Fr (fun _ => False) w3 w8 := (((HF4.out.trans' HF5.out).trans' HF7.out).trans' HF8.out)
  exact (hA.trans hB (fun k hk => hk.elim)).below (fun k hk => hk) (Nat.le_refl _)
end Go.Proofs.YtjjfglbcikaicaaGreat
namespace Go.Proofs.YtjjfglbcikaicaaGreat
open Go.RowKit Go.Maps
set_option linter.unusedVariables false
set_option linter.unusedSimpArgs false
theorem putBox_full {a : ActS} {x : LT} (h : a.box.length = 60) : putBox a x = a := by unfold putBox; rw [if_pos h]
theorem setA_same {N : NdS} (hs : N.acts.Pairwise fun a b => a.ref < b.ref) {a : ActS} (ha : a ∈ N.acts) : N.setA a = N := by
  unfold NdS.setA
  have : (N.acts.map fun b => if b.ref == a.ref then a else b) = N.acts := by
    refine (List.map_congr_left fun b hb => ?_).trans (List.map_id _)
    by_cases e : b.ref = a.ref
    · have := srt_uniq hs b a hb ha e
      subst this
      simp
    · have : (b.ref == a.ref) = false := by simpa using e
      rw [this]
      rfl
  rw [this]
/-- what a delivery answers is what Put answers -/
theorem putN_has {N : NdS} (hs : N.acts.Pairwise fun a b => a.ref < b.ref) {x : LT} (hk : 1 ≤ x.kind ∧ x.kind ≤ 5) (h : N.has x.to = true) : putN N x = (deliverN N x, delErrK N x) := by
  obtain ⟨a, ha⟩ : ∃ a, N.find x.to = some a := Option.isSome_iff_exists.1 h
  obtain ⟨hm, hr⟩ := find_some ha
  unfold putN
  rw [if_neg (by omega), ha]
  dsimp only
  by_cases hb : (x.kind = 1 ∨ x.kind = 2) ∧ a.box.length = 60
  · rw [if_pos hb]
    unfold deliverN deliverW delErrK delErr
    rw [if_pos hb.1, if_pos hb.1, ha]
    dsimp only
    rw [putBox_full hb.2, setA_same hs hm, if_pos hb.2]
  · rw [if_neg hb]
    unfold delErrK delErr
    split
    · rename_i h1
      rw [ha]
      dsimp only
      rw [if_neg (fun e => hb ⟨h1, e⟩)]
    · rfl
set_option maxRecDepth 100000 in
set_option maxHeartbeats 4000000 in
theorem put_any {w : World} {X M : Nat → Prop} {base T p : Nat} {P : Int → Nat} {N : NdS} (x : LT) (cs : List Value) (S : Nat → Prop) (h : NodeAt w X M base T p P N) (hl : x.isL w S cs) (hx : LtWf x) (hT : T < 1000000000000) :
    Calls Tryz.prog 19 #[.pointer (some ⟨p, 0, none⟩), .agg cs.toArray] w (NdPost X M base (T + 1) p P (putN N x).1 w (.int .i64 (putN N x).2)) := by
  have hok := h.ok
  have hplt := h.p_lt
  obtain ⟨⟨⟨q1, q2, q3⟩, q4, q5, q6⟩, hQ⟩ := isL_ex hl
  dsimp only at hQ
  subst hQ
  have HN := Lib.hid (h.up (T' := T + 1) (by omega))
  by_cases hk : 1 ≤ x.kind ∧ x.kind ≤ 5
  · have HK := Lib.hid hk
    have g1 : decide (x.kind < 1) = false := decide_eq_false (by omega)
    have g2 : decide ((5 : Int) < x.kind) = false := decide_eq_false (by omega)
    obtain ⟨mb, c3, hmb, _, hlk1, hlk2⟩ := h.look
    obtain ⟨W, hW⟩ : ∃ W, W = w.alloc (.cells #[.int .i64 x.kind, .int .i64 x.frm, .int .i64 x.to, .int .i64 x.num, .string x.text, .int .i64 q1, .int .i64 q2, .string q3, .slice q4 q5 q6] 43) := ⟨_, rfl⟩
    have hf : Fr (fun _ => False) w W := by rw [hW]; exact (Fr.refl _ _).alloc _
    have z0 : W.cell? ⟨w.heap.size, 0, none⟩ = some (.int .i64 x.kind) := by rw [hW]; simp [go_sem]
    have z1 : W.cell? ⟨w.heap.size, 1, none⟩ = some (.int .i64 x.frm) := by rw [hW]; simp [go_sem]
    have z2 : W.cell? ⟨w.heap.size, 2, none⟩ = some (.int .i64 x.to) := by rw [hW]; simp [go_sem]
    have z3 : W.cell? ⟨w.heap.size, 3, none⟩ = some (.int .i64 x.num) := by rw [hW]; simp [go_sem]
    have z4 : W.cell? ⟨w.heap.size, 4, none⟩ = some (.string x.text) := by rw [hW]; simp [go_sem]
    have z5 : W.cell? ⟨w.heap.size, 5, none⟩ = some (.int .i64 q1) := by rw [hW]; simp [go_sem]
    have z6 : W.cell? ⟨w.heap.size, 6, none⟩ = some (.int .i64 q2) := by rw [hW]; simp [go_sem]
    have z7 : W.cell? ⟨w.heap.size, 7, none⟩ = some (.string q3) := by rw [hW]; simp [go_sem]
    have z8 : W.cell? ⟨w.heap.size, 8, none⟩ = some (.slice q4 q5 q6) := by rw [hW]; simp [go_sem]
    have d3 := hf.cell c3 (fun h => h)
    have hwW : w.heap.size < W.heap.size := by rw [hW]; simp
    have HL := Lib.hid (show ∀ W2, Fr (fun _ => False) W W2 → x.isL W2 S [.int .i64 x.kind, .int .i64 x.frm, .int .i64 x.to, .int .i64 x.num, .string x.text, .int .i64 q1, .int .i64 q2, .string q3, .slice q4 q5 q6] from fun W2 hf2 => isL_frame (hf.trans' hf2).size (fun k hk hlt => ⟨hk, (hf.trans' hf2).block k hlt (fun h => h)⟩) hl)
    have HF := Lib.hid hf
    have HW := Lib.hid hW
    rcases hhas : N.has x.to with _ | _
    · have hlook := hlk2 x.to hx.2.1 hhas W.drew (hf.drew.weak (fun _ h => h.elim))
      have HE := Lib.hid (show putN N x = (replyN N x, 4) by
        unfold putN
        rw [if_neg (by omega)]
        have : N.find x.to = none := by
          rcases hfd : N.find x.to with _ | a
          · rfl
          · unfold NdS.has at hhas; rw [hfd] at hhas; cases hhas
        rw [this])
      have HC := Lib.hid (fun (W2 : World) (hf2 : Fr (fun _ => False) W W2) => reply_any (rem_ok 60) x _ S (HN.out.new (hf.trans' hf2) (fun _ h => h)) (HL.out W2 hf2) hx hok.len (by have := h.lim; unfold pot; omega) (by omega))
      clear h hok hl hx hk hlk1 hlk2 hhas hf hW c3 HL
      go_enter Tryz.func19, Tryz.ntmps19
      go_wp2_with fail
      rw [← HW.out]
      go_wp2_with fail
      go_region
      all_goals
        go_wp2_with fail
        refine (HC.out _ (by (repeat' first | with_reducible exact Fr.refl _ _ | (with_reducible refine Fr.setEq ?_ _) | (with_reducible refine Fr.setNew ?_ _) | with_reducible refine Fr.alloc ?_ _ | with_reducible refine Fr.drewN ?_ _ | with_reducible refine Fr.drew ?_))).mono ?_
        rintro e w5 ⟨⟨rfl, X5, M5, hg5, hn5⟩, -, -⟩
        have HG5 := Lib.hid hg5
        have HN5 := Lib.hid hn5
        clear hg5 hn5
        go_wp2_with fail
        refine bodyPost_ret (v := .int .i64 4) (by simp [results, Tryz.results19, go_sem]) rfl ?_
        rw [HE.out]
        exact ⟨rfl, X5, M5, (Gr.new (HF.out.trans' (by (repeat' first | with_reducible exact Fr.refl _ _ | (with_reducible refine Fr.setEq ?_ _) | (with_reducible refine Fr.setNew ?_ _) | with_reducible refine Fr.alloc ?_ _ | with_reducible refine Fr.drewN ?_ _ | with_reducible refine Fr.drew ?_)))).trans HG5.out, HN5.out⟩
    · obtain ⟨a, ha⟩ : ∃ a, N.find x.to = some a := Option.isSome_iff_exists.1 hhas
      obtain ⟨pa, -, _, _, _, _, hlk⟩ := hlk1 x.to a ha
      have hlook := hlk W.drew (hf.drew.weak (fun _ h => h.elim))
      have HE := Lib.hid (putN_has hok.srt hk hhas)
      have HC := Lib.hid (fun (W2 : World) (hf2 : Fr (fun _ => False) W W2) => deliver_any (rem_ok 60) x _ S (HN.out.new (hf.trans' hf2) (fun _ h => h)) (HL.out W2 hf2) hx hk hok.len hhas (by omega))
      clear h hok hl hx hk hlk1 hlk2 hhas hf hW c3 HL ha hlk
      go_enter Tryz.func19, Tryz.ntmps19
      go_wp2_with fail
      rw [← HW.out]
      go_wp2_with fail
      go_region
      all_goals
        go_wp2_with fail
        refine (HC.out _ (by (repeat' first | with_reducible exact Fr.refl _ _ | (with_reducible refine Fr.setEq ?_ _) | (with_reducible refine Fr.setNew ?_ _) | with_reducible refine Fr.alloc ?_ _ | with_reducible refine Fr.drewN ?_ _ | with_reducible refine Fr.drew ?_))).mono ?_
        rintro e w5 ⟨⟨rfl, X5, M5, hg5, hn5⟩, -, -⟩
        have HG5 := Lib.hid hg5
        have HN5 := Lib.hid hn5
        clear hg5 hn5
        go_wp2_with fail
        refine bodyPost_ret (v := .int .i64 (delErrK N x)) (by simp [results, Tryz.results19, go_sem]) rfl ?_
        rw [HE.out]
        exact ⟨rfl, X5, M5, (Gr.new (HF.out.trans' (by (repeat' first | with_reducible exact Fr.refl _ _ | (with_reducible refine Fr.setEq ?_ _) | (with_reducible refine Fr.setNew ?_ _) | with_reducible refine Fr.alloc ?_ _ | with_reducible refine Fr.drewN ?_ _ | with_reducible refine Fr.drew ?_)))).trans HG5.out, HN5.out⟩
  · by_cases hk1 : x.kind < 1
    · have HE := Lib.hid (show putN N x = (N, 1) by unfold putN; rw [if_pos (.inl hk1)])
      have g1 : decide (x.kind < 1) = true := decide_eq_true hk1
      clear h hok hl hx hk hk1
      go_enter Tryz.func19, Tryz.ntmps19
      go_wp2_with fail
      refine bodyPost_ret (v := .int .i64 1) (by simp [results, Tryz.results19, go_sem]) rfl ?_
      rw [HE.out]
      exact ⟨rfl, X, M, Gr.new ((Fr.refl _ _).alloc _), HN.out.new ((Fr.refl (fun _ => False) _).alloc _) (fun _ h => h)⟩
    · have HE := Lib.hid (show putN N x = (N, 1) by unfold putN; rw [if_pos (.inr (by omega))])
      have g1 : decide (x.kind < 1) = false := decide_eq_false (by omega)
      have g2 : decide ((5 : Int) < x.kind) = true := decide_eq_true (by omega)
      clear h hok hl hx hk hk1
      go_enter Tryz.func19, Tryz.ntmps19
      go_wp2_with fail
      refine bodyPost_ret (v := .int .i64 1) (by simp [results, Tryz.results19, go_sem]) rfl ?_
      rw [HE.out]
      exact ⟨rfl, X, M, Gr.new ((Fr.refl _ _).alloc _), HN.out.new ((Fr.refl (fun _ => False) _).alloc _) (fun _ h => h)⟩
end Go.Proofs.YtjjfglbcikaicaaGreat
namespace Go.Proofs.YtjjfglbcikaicaaGreat
open Go.RowKit Go.Maps
set_option linter.unusedVariables false
set_option linter.unusedSimpArgs false
def tickA (a : ActS) : ActS := if a.waits && decide (0 < a.ticks) then { a with ticks := a.ticks - 1 } else a
theorem tickA_ref (a : ActS) : (tickA a).ref = a.ref := by unfold tickA; split <;> rfl
theorem tickA_ok {a : ActS} (h : ActOk a) : ActOk (tickA a) := by unfold tickA; split <;> exact { h with }
/-- those of L have had the tick -/
def tickL (N : NdS) (L : List Int) : NdS := { N with acts := N.acts.map fun a => if a.ref ∈ L then tickA a else a }
theorem tickL_nil (N : NdS) : tickL N [] = N := by
  unfold tickL
  have : (N.acts.map fun a => if a.ref ∈ ([] : List Int) then tickA a else a) = N.acts := by simp
  rw [this]
theorem tickL_all {N : NdS} {L : List Int} (h : ∀ a, a ∈ N.acts → a.ref ∈ L) : tickL N L = tickN N := by
  unfold tickL tickN
  congr 1
  exact List.map_congr_left fun a ha => by rw [if_pos (h a ha)]; rfl
theorem tickL_find {N : NdS} (hs : N.acts.Pairwise fun a b => a.ref < b.ref) {L : List Int} {x : Int} {a : ActS} (ha : N.find x = some a) (hx : x ∉ L) : (tickL N L).find x = some a := by
  obtain ⟨hm, rfl⟩ := find_some ha
  have hr : (tickL N L).acts.map (·.ref) = N.acts.map (·.ref) := by
    unfold tickL
    rw [List.map_map]
    exact List.map_congr_left fun b _ => by
      show (if b.ref ∈ L then tickA b else b).ref = b.ref
      split
      · exact tickA_ref b
      · rfl
  refine find_of_mem (N := tickL N L) (srt_refs hr hs) ?_
  unfold tickL
  rw [List.mem_map]
  exact ⟨a, hm, by rw [if_neg hx]⟩
theorem tickL_set {N : NdS} (hs : N.acts.Pairwise fun a b => a.ref < b.ref) {L : List Int} {x : Int} {a : ActS} (ha : N.find x = some a) (hx : x ∉ L) : (tickL N L).setA (tickA a) = tickL N (L ++ [x]) := by
  obtain ⟨hm, rfl⟩ := find_some ha
  unfold tickL NdS.setA
  dsimp only
  rw [List.map_map]
  congr 1
  refine List.map_congr_left fun b hb => ?_
  show (if ((if b.ref ∈ L then tickA b else b).ref == (tickA a).ref) then tickA a else (if b.ref ∈ L then tickA b else b)) = _
  rw [tickA_ref]
  have e : (if b.ref ∈ L then tickA b else b).ref = b.ref := by
    split
    · exact tickA_ref b
    · rfl
  rw [e]
  by_cases h : b.ref = a.ref
  · have := srt_uniq hs b a hb hm h
    subst this
    rw [if_pos (by simp), if_pos (by simp)]
  · have h' : (b.ref == a.ref) = false := by simpa using h
    rw [h']
    simp [h]
theorem ActG.setTicks {w : World} {X MA : Nat → Prop} {base T p b rb kb : Nat} {ib : Option Nat} {a : ActS} (h : ActG w X base T MA p b rb kb ib a) (hX : X p) (t : Int) : ActG (w.setCell ⟨p, 5, none⟩ (.int .i64 t)) X base T MA p b rb kb ib { a with ticks := t } := by
  have hf : Fr (fun k => k = p) w (w.setCell ⟨p, 5, none⟩ (.int .i64 t)) := Fr.setAt (Fr.refl _ w) _
  have hk : ∀ k, k = p → X k := fun k hk => hk ▸ hX
  obtain ⟨m1, m2, m3, m4, m5⟩ := h.mine
  obtain ⟨a1, a2, a3, a4, a5, a6⟩ := h.ap
  obtain ⟨A2, c2, s1, s2, s3, s4⟩ := h.a2
  obtain ⟨n, k1, k2⟩ := h.kn
  have so : ∀ {o : Nat} {v : Value}, o ≠ 5 → w.cell? ⟨p, o, none⟩ = some v → (w.setCell ⟨p, 5, none⟩ (.int .i64 t)).cell? ⟨p, o, none⟩ = some v := fun hne hc => by
    rw [← hc]
    simp [go_sem]
    first | done | (intro e; exact absurd e.symm (by omega)) | omega
  exact {
    dia := h.dia.fr hf hk (fun k hk => .inl hk) (fun k hk => hk ▸ h.lbp.1) (Nat.le_refl _) (fun e => a1 e.symm) (fun e => a2 e.symm) (fun k hk e => (a6 k hk).1 e)
    a0 := so (by decide) h.a0
    a1 := so (by decide) h.a1
    a2 := ⟨A2, c2, so (by decide) s1, s2, s3, s4.fr hf hk (fun k hk => .inl hk)⟩
    a3 := so (by decide) h.a3
    a4 := so (by decide) h.a4
    a5 := by have := h.a5; simp [go_sem, this]
    a6 := so (by decide) h.a6
    kn := ⟨n, k1.fr hf (fun e => a3 e.symm), k2⟩
    fz := fun o => by simp [go_sem, h.fz]
    mine := h.mine
    ap := h.ap
    lbp := h.lbp }
/-- the end of a round -/
theorem tick_fin {w wr w5 w' : World} {X M MA : Nat → Prop} {base T p mb r : Nat} {P : Int → Nat} {N : NdS} {L : List Int} {x : Int} {g : Int → Option Value} {N' : NdS} (hR5 : RngM w5 mb r g (L ++ [x])) (hf5 : Fr (fun k => k = r) wr w5) (hlt5 : w5.rangeLeft mb r < wr.rangeLeft mb r) (hs5 : w5.heap.size = wr.heap.size)
    (hNd : NodeAt wr (fun k => X k ∨ k = r) M base T p P (tickL N L)) (hFr : Fr M w wr) (hc : wr.cell? ⟨p, 3, none⟩ = some (.map (some mb))) (hMA : ∀ k, MA k → M k ∧ k ≠ p ∧ k ≠ mb) (hMX : ∀ k, M k → X k ∧ base ≤ k) (hXl : ∀ k, X k → k < w.heap.size) (hr : w.heap.size = r) (hmr : mb < r)
    (hb : Gr (fun k => X k ∨ k = r) M w5 (fun k => X k ∨ k = r) (fun k => M k ∨ MA k) w' ∧ NodeAt w' (fun k => X k ∨ k = r) (fun k => M k ∨ MA k) base T p P N') (he : N' = tickL N (L ++ [x])) (hf : Fr MA w5 w') :
    (∃ L, RngM w' mb r g L ∧ NodeAt w' (fun k => X k ∨ k = r) M base T p P (tickL N L) ∧ Fr M w w' ∧ w'.cell? ⟨p, 3, none⟩ = some (.map (some mb))) ∧ w'.rangeLeft mb r < wr.rangeLeft mb r := by
  have hrM : ¬ M r := fun hm => by have := hXl r (hMX r hm).1; omega
  have hpr : ¬ p = r := fun e => hrM (e ▸ hNd.pM.1)
  obtain ⟨k1, k2⟩ := hR5.fr hf (fun h => (hMA _ h).2.2 rfl) (fun h => hrM (hMA _ h).1)
  have eM : (fun k => M k ∨ MA k) = M := funext fun k => propext ⟨fun h => h.elim id fun h => (hMA k h).1, fun h => .inl h⟩
  have hn := hb.2
  rw [eM, he] at hn
  refine ⟨⟨L ++ [x], k1, hn, ?_, hf.cell (hf5.cell hc hpr) (fun h => (hMA _ h).2.1 rfl)⟩, by omega⟩
  exact (hFr.trans hf5 (fun k hk => .inr (by omega))).trans (hf.weak (fun k hk => (hMA k hk).1)) (fun k hk => .inl hk)
set_option maxRecDepth 100000 in
set_option maxHeartbeats 4000000 in
theorem tick_any {w : World} {X M : Nat → Prop} {base T p : Nat} {P : Int → Nat} {N : NdS} (h : NodeAt w X M base T p P N) (ht : ∀ a, a ∈ N.acts → a.ticks ≤ 9223372036854775807) :
    Calls Tryz.prog 61 #[.pointer (some ⟨p, 0, none⟩)] w (NdPost X M base T p P (tickN N) w (.tuple #[])) := by
  have hXl := h.xlt
  have hMX := h.2.2.1
  have HS := Lib.hid h.ok.srt
  have hwf : ∀ x, N.has x = true → Wf x := fun x hx => by
    obtain ⟨a, ha, rfl⟩ := has_iff.1 hx
    exact (h.ok.act a ha).ref
  have HWF := Lib.hid hwf
  have HN := Lib.hid h
  have HTK := Lib.hid ht
  obtain ⟨mb, c3, hmb, hMb, -, -⟩ := h.look
  have hom : OwnM w mb N.acts.length (fun r => if N.has r then some (.pointer (some ⟨P r, 0, none⟩)) else none) := by
    obtain ⟨_, _, _, mb', _, _, _, _, h4, _⟩ := h
    have := h4.c3
    rw [c3] at this
    injection this with this
    injection this with this
    injection this with this
    subst this
    exact h4.am
  have HOM := Lib.hid hom
  have HXL := Lib.hid hXl
  have HMX := Lib.hid hMX
  have hbw : base ≤ w.heap.size := by have := h.pM.2.2; have := h.p_lt; omega
  clear h hXl hMX hwf hom ht
  go_enter Tryz.func61, Tryz.ntmps61
  go_wp2_with (first | (at_range; refine wp_range_M rfl _ 99 107 rfl und_actors mb _ _ rfl HOM.out ?_; intro w0 hrng hfr hsz; have HRNG := Lib.hid hrng; have HFR0 := Lib.hid hfr; have HSZ0 := Lib.hid hsz; clear hrng hfr hsz))
  go_frame
  generalize hgg : (fun r => if N.has r = true then some (Value.pointer (some ⟨P r, 0, none⟩)) else none) = g at *
  have HGG := Lib.hid hgg
  clear hgg
  obtain ⟨r, hr⟩ : ∃ r, w.heap.size = r := ⟨_, rfl⟩
  have HR := Lib.hid hr
  rw [hr] at HRNG
  rw [hr]
  have hmr : mb < r := by omega
  clear hr
  go_loopw [3] (fun v3 wr => ∃ L, RngM wr mb r g L ∧ NodeAt wr (fun k => X k ∨ k = r) M base T p P (tickL N L) ∧ Fr M w wr ∧ wr.cell? ⟨p, 3, none⟩ = some (.map (some mb))) (fun _ wr => wr.rangeLeft mb r)
  case atStart =>
    refine ⟨[], HRNG.out, ?_, HFR0.out.weak (fun _ h => h.elim), HFR0.out.cell c3 (fun h => h)⟩
    rw [tickL_nil]
    exact HN.out.fr HFR0.out (fun k hk => hk.elim) (fun k hk => .inl hk) (fun k hk => by
      rcases hk with hk | hk
      · exact .inl hk
      · exact .inr ⟨by have := HR.out; omega, by have := HR.out; have := HSZ0.out; omega⟩) (fun _ _ h => h)
  case round =>
    obtain ⟨L, hRg, hNd, hFr, hc⟩ := hrel
    have HC := Lib.hid hc
    have HRg := Lib.hid hRg
    have HNd := Lib.hid hNd
    have HFrm := Lib.hid hFr
    clear hRg hNd hFr hc
    go_wp2_with (first
      | (at_next; (refine wp_next_M rfl _ rfl mb r g L rfl HRg.out ?_ ?_; rotate_left; (intro x v w5 hwx hgx hxL hR5 hlt5 hf5 hs5 hen; obtain ⟨a, hfa, hve⟩ : ∃ a, N.find x = some a ∧ v = .pointer (some ⟨P x, 0, none⟩) := (by rw [← HGG.out] at hgx; dsimp only at hgx; by_cases e : N.has x = true; (· rw [if_pos e] at hgx; obtain ⟨a, ha⟩ := Option.isSome_iff_exists.1 e; exact ⟨a, ha, by injection hgx with hgx; exact hgx.symm⟩); (· rw [if_neg e] at hgx; cases hgx)); subst hve; have HFA := Lib.hid hfa; have HXNL := Lib.hid hxL; have HR5 := Lib.hid hR5; have HF5 := Lib.hid hf5; have HLT5 := Lib.hid hlt5; have HS5 := Lib.hid hs5; have hrM : ¬ M r := (fun hm => by have := HXL.out r (HMX.out r hm).1; have := HR.out; omega); have HN5 := Lib.hid (HNd.out.fr (X' := fun k => X k ∨ k = r) hf5 (fun k hk => ⟨.inr hk, by have := HR.out; omega⟩) (fun _ h => h) (fun k hk => .inl hk) (fun k hk e => hrM (e ▸ hk))); obtain ⟨pa, b, rb, kb, ib, MA, mb', hpa, hc3', hA, hMA, -, hback⟩ := HN5.out.act (tickL_find HS.out hfa hxL); subst hpa; have hmbe : mb = mb' := (by have h1 := hf5.cell HC.out (fun e => hrM (e ▸ HN5.out.pM.1)); rw [hc3'] at h1; injection h1 with h1; injection h1 with h1; injection h1 with h1; exact h1.symm); subst hmbe; have hc5 := Lib.hid hc3'; have hi1 : 0 < a.ticks → IntKind.i64.wrap (a.ticks - 1) = a.ticks - 1 := (fun h0 => by have h9 := HTK.out a (find_some hfa).1; rw [IntWalk.i64_in _ ⟨by omega, by omega⟩]); have a4 := hA.a4; have a5 := hA.a5; have hfz := hA.fz; have HA := Lib.hid hA; have HMA := Lib.hid hMA; have HBACK := Lib.hid hback; clear hwx hgx hxL hR5 hf5 hlt5 hs5 hfa hA hMA hback hrM hc3'); rotate_left; (intro hd; have HD := Lib.hid hd; clear hd))))
    · exact bodyPost_end (results_none rfl _ _ _) rfl ⟨rfl, fun k => X k ∨ k = r, M, ⟨HFrm.out, fun k hk => .inl hk, fun k hk => by
        rcases hk with hk | hk
        · exact .inl hk
        · exact .inr (by have := HR.out; omega), fun k hk => .inl hk⟩, by
        have := HNd.out
        rw [tickL_all (fun a ha => by
          have h1 : N.has a.ref = true := has_iff.2 ⟨a, ha, rfl⟩
          exact HD.out a.ref (HWF.out _ h1) (by rw [← HGG.out]; dsimp only; rw [if_pos h1]; rfl))] at this
        exact this⟩
    · rename_i h1 h2
      have e : tickA a = { a with ticks := a.ticks - 1 } := by unfold tickA; rw [h1]; simp [h2]
      have hX : (fun k => X k ∨ k = r) (P x) := .inl (HMX.out _ (HMA.out _ HA.out.mine.1).1).1
      exact tick_fin HR5.out HF5.out HLT5.out HS5.out HNd.out HFrm.out HC.out HMA.out HMX.out HXL.out (by have := HR.out; omega) (by have := HR.out; omega) (HBACK.out (w5.setCell ⟨P x, 5, none⟩ (.int .i64 (a.ticks - 1))) (fun k => X k ∨ k = r) MA T (tickA a) (fun _ h => h) (fun k hk => .inl hk) (fun k hk => .inl hk) (fun k hk => .inl (HMX.out _ (HMA.out _ hk).1).1) ⟨b, rb, kb, ib, by rw [e]; exact HA.out.setTicks hX _⟩ ((Fr.refl MA w5).set (.inl HA.out.mine.1) _) (tickA_ref a) (tickA_ok ((HNd.out.ok).act a (find_some (tickL_find HS.out HFA.out HXNL.out)).1)) (Nat.le_refl _)) (tickL_set HS.out HFA.out HXNL.out) ((Fr.refl MA w5).set (.inl HA.out.mine.1) _)
    · rename_i h1 h2
      have e : tickA a = a := by unfold tickA; rw [h1]; simp; omega
      exact tick_fin HR5.out HF5.out HLT5.out HS5.out HNd.out HFrm.out HC.out HMA.out HMX.out HXL.out (by have := HR.out; omega) (by have := HR.out; omega) (HBACK.out w5 (fun k => X k ∨ k = r) MA T (tickA a) (fun _ h => h) (fun k hk => .inl hk) (fun k hk => .inl hk) (fun k hk => .inl (HMX.out _ (HMA.out _ hk).1).1) ⟨b, rb, kb, ib, by rw [e]; exact HA.out⟩ (Fr.refl MA w5) (tickA_ref a) (tickA_ok ((HNd.out.ok).act a (find_some (tickL_find HS.out HFA.out HXNL.out)).1)) (Nat.le_refl _)) (tickL_set HS.out HFA.out HXNL.out) (Fr.refl MA w5)
    · rename_i h1
      have e : tickA a = a := by unfold tickA; simp [h1]
      exact tick_fin HR5.out HF5.out HLT5.out HS5.out HNd.out HFrm.out HC.out HMA.out HMX.out HXL.out (by have := HR.out; omega) (by have := HR.out; omega) (HBACK.out w5 (fun k => X k ∨ k = r) MA T (tickA a) (fun _ h => h) (fun k hk => .inl hk) (fun k hk => .inl hk) (fun k hk => .inl (HMX.out _ (HMA.out _ hk).1).1) ⟨b, rb, kb, ib, by rw [e]; exact HA.out⟩ (Fr.refl MA w5) (tickA_ref a) (tickA_ok ((HNd.out.ok).act a (find_some (tickL_find HS.out HFA.out HXNL.out)).1)) (Nat.le_refl _)) (tickL_set HS.out HFA.out HXNL.out) (Fr.refl MA w5)
end Go.Proofs.YtjjfglbcikaicaaGreat
