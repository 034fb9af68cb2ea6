/- Two nodes side by side, one without some that wait for ever: what is done to both leaves them so. A node that is begun, beside itself. copies.Parcel: a parcel is copied whole. A script's runner is made out of a state; a diary is begun with it. diary.Back: a diary that waits again. Node.Save, Node.row. Node.Parcel. Node.Take: a parcel, and the actor goes without letters. Node.Bring: an actor out of a parcel. An actor in a parcel, and out of it: what the law NodeMoves needs. Two nodes side by side: what one does leaves the other as it was. Two nodes beside each other: how they come, and what is compared of them. The walk of the law NodeMoves. -/
import Derived.Test.YtjjfglbcikaicaaGreatMJ
import Derived.Test.YtjjfglbcikaicaaGreatMS
import Derived.Test.YtjjfglbcikaicaaGreatMF
import Derived.Test.YtjjfglbcikaicaaGreatME
import Derived.Test.YtjjfglbcikaicaaGreatMH
import Derived.Test.YtjjfglbcikaicaaGreatMD
import Derived.BigRegion
import Derived.Test.YtjjfglbcikaicaaGreatMI
import Derived.Test.YtjjfglbcikaicaaGreatMB
namespace Go.Proofs.YtjjfglbcikaicaaGreat
open Go.RowKit
set_option linter.unusedVariables false
set_option linter.unusedSimpArgs false
/-- steps that ask for oneself or for whom one spawned -/
def TameS (l : List Stp) : Prop := ∀ s, s ∈ l → (s.kind = 2 ∨ s.kind = 4 ∨ s.kind = 5) → s.a = 0 ∨ s.a = -1
def RunnOk (l : List Stp) (r : RunS) : Prop := (r.over = true → r.lk = 8 ∨ r.lk = 9) ∧ (r.waiting = true → r.lk = 7 ∧ r.pos < l.length ∧ (nthS l r.pos).kind = 6)
def Asks (r : RunS) (o : OutS) : Prop := (o.kind = 3 ∨ o.kind = 5 ∨ o.kind = 6) → o.num = r.self ∨ o.num = r.kid
theorem nthS_in {l : List Stp} {k : Nat} (h : k < l.length) : nthS l k ∈ l := by
  unfold nthS
  rw [List.getD_eq_getElem?_getD, List.getElem?_eq_getElem h]
  exact List.getElem_mem _
theorem lit_no {a : Int} (h3 : a ≠ 3) (h5 : a ≠ 5) (h6 : a ≠ 6) {P : Prop} : (a = 3 ∨ a = 5 ∨ a = 6) → P := fun e => by
  rcases e with e | e | e
  · exact absurd e h3
  · exact absurd e h5
  · exact absurd e h6
/-- what a run leaves of a runner -/
structure RunGo (l : List Stp) (r : RunS) (p : RunS × OutS) : Prop where
  asks : Asks r p.2
  ok : RunnOk l p.1
  kid : p.1.kid = r.kid
  self : p.1.self = r.self
  wt : p.2.kind = 7 → p.1.waiting = true
theorem stepR_tame {l : List Stp} {r : RunS} (h : TameS l) (ho : r.over = false) (hw : r.waiting = false) : RunGo l r (stepR l r) := by
  have hno : ∀ r' : RunS, r'.over = false → r'.waiting = false → RunnOk l r' := fun r' e1 e2 => ⟨fun e => (by rw [e1] at e; cases e), fun e => (by rw [e2] at e; cases e)⟩
  have hov : ∀ r' : RunS, r'.lk = 8 ∨ r'.lk = 9 → r'.waiting = false → RunnOk l r' := fun r' e1 e2 => ⟨fun _ => e1, fun e => by rw [e2] at e; cases e⟩
  unfold stepR
  split
  · exact ⟨lit_no (a := 8) (by decide) (by decide) (by decide), hov _ (.inl rfl) hw, rfl, rfl, fun e => by cases e⟩
  · rename_i hl
    have hm : nthS l r.pos ∈ l := nthS_in (by omega)
    have hpos : r.pos < l.length := by omega
    have hks : (nthS l r.pos).kind = (nthS l r.pos).kind := rfl
    dsimp only
    generalize hs : nthS l r.pos = s at *
    have href : s.kind = 2 ∨ s.kind = 4 ∨ s.kind = 5 → refR r s.a = r.self ∨ refR r s.a = r.kid := fun hk => by
      unfold refR
      rcases h s hm hk with e | e
      · rw [if_pos e]; exact .inl rfl
      · rw [if_neg (by omega), if_pos e]; exact .inr rfl
    split
    · exact ⟨lit_no (a := 2) (by decide) (by decide) (by decide), hno _ ho hw, rfl, rfl, fun e => by cases e⟩
    split
    · rename_i e; exact ⟨fun _ => href (.inl e), hno _ ho hw, rfl, rfl, fun e => by cases e⟩
    split
    · exact ⟨lit_no (a := 4) (by decide) (by decide) (by decide), hno _ ho hw, rfl, rfl, fun e => by cases e⟩
    split
    · rename_i e; exact ⟨fun _ => href (.inr (.inl e)), hno _ ho hw, rfl, rfl, fun e => by cases e⟩
    split
    · rename_i e; exact ⟨fun _ => href (.inr (.inr e)), hno _ ho hw, rfl, rfl, fun e => by cases e⟩
    split
    · rename_i e6
      exact ⟨lit_no (a := 7) (by decide) (by decide) (by decide), ⟨fun e => (by rw [show r.over = true from e] at ho; cases ho), fun _ => ⟨rfl, hpos, (by show (nthS l r.pos).kind = 6; rw [hs]; exact e6)⟩⟩, rfl, rfl, fun _ => rfl⟩
    split
    · exact ⟨lit_no (a := 8) (by decide) (by decide) (by decide), hov _ (.inl rfl) hw, rfl, rfl, fun e => by cases e⟩
    split
    · exact ⟨lit_no (a := 9) (by decide) (by decide) (by decide), hov _ (.inr rfl) hw, rfl, rfl, fun e => by cases e⟩
    split
    · exact ⟨lit_no (a := 1) (by decide) (by decide) (by decide), hno _ ho hw, rfl, rfl, fun e => by cases e⟩
    · exact ⟨lit_no (a := 1) (by decide) (by decide) (by decide), hno _ ho hw, rfl, rfl, fun e => by cases e⟩
theorem runR_tame {l : List Stp} (h : TameS l) : ∀ (f : Nat) {r : RunS}, RunnOk l r → RunGo l r (runR l f r)
  | 0, r, hk => ⟨lit_no (a := 1) (by decide) (by decide) (by decide), hk, rfl, rfl, fun e => by cases e⟩
  | f + 1, r, hk => by
    unfold runR
    split
    · rename_i e
      rw [Bool.or_eq_true] at e
      have h789 : r.lk = 7 ∨ r.lk = 8 ∨ r.lk = 9 := by
        rcases e with e | e
        · exact .inr (hk.1 e)
        · exact .inl (hk.2 e).1
      refine ⟨fun e3 => ?_, hk, rfl, rfl, fun e7 => ?_⟩
      · have e3 : r.lk = 3 ∨ r.lk = 5 ∨ r.lk = 6 := e3
        omega
      · have e7 : r.lk = 7 := e7
        rcases e with e | e
        · have := hk.1 e; omega
        · exact e
    rename_i e
    have e : ¬ (r.over || r.waiting) = true := e
    rw [Bool.or_eq_true, not_or] at e
    split
    · exact ⟨lit_no (a := 1) (by decide) (by decide) (by decide), hk, rfl, rfl, fun e => by cases e⟩
    have g := stepR_tame h (by simpa using e.1) (by simpa using e.2)
    split
    · have k := runR_tame h f g.ok
      refine ⟨fun e => ?_, k.ok, k.kid.trans g.kid, k.self.trans g.self, k.wt⟩
      rw [← g.kid, ← g.self]
      exact k.asks e
    · exact g
theorem runD_out (f : Nat) (d : DiaS) : (runD f d).2 = (runR d.l f d.r).2 ∧ (runD f d).1.r = (runR d.l f d.r).1 ∧ (runD f d).1.l = d.l ∧ (runD f d).1.nm = d.nm := by
  unfold runD
  dsimp only
  split <;> exact ⟨rfl, rfl, rfl, rfl⟩
/-- one who knows none that are gone -/
structure Liv (G : Int → Bool) (scr : List (List Stp)) (a : ActS) : Prop where
  kid : G a.d.r.kid = false
  kn : a.d.r.kid = 0 ∨ a.knows a.d.r.kid = true
  self : a.d.r.self = a.ref
  tame : TameS a.d.l
  mkn : makeN scr a.d.nm = some a.d.l
  k0 : 0 ≤ a.d.r.kid
  lk : RunnOk a.d.l a.d.r
  w : a.waits = true → a.d.r.waiting = true
section
variable {G : Int → Bool} {scr : List (List Stp)}
theorem Liv.put {a : ActS} (h : Liv G scr a) (x : LT) : Liv G scr (putBox a x) := by
  unfold putBox
  split
  · exact h
  · exact ⟨h.kid, h.kn, h.self, h.tame, h.mkn, h.k0, h.lk, h.w⟩
/-- what offers and ends of waits leave of a diary -/
structure OfD (d d' : DiaS) : Prop where
  l : d'.l = d.l
  nm : d'.nm = d.nm
  kid : d'.r.kid = d.r.kid
  self : d'.r.self = d.r.self
  ok : RunnOk d.l d.r → RunnOk d.l d'.r
theorem offerD_of (d : DiaS) (v : VT) : OfD d (offerD d v).1 := by
  unfold offerD
  split
  · dsimp only
    split
    · unfold offerR
      split
      · split
        · exact ⟨rfl, rfl, rfl, rfl, fun h => ⟨h.1, fun e => by cases e⟩⟩
        · exact ⟨rfl, rfl, rfl, rfl, id⟩
      · exact ⟨rfl, rfl, rfl, rfl, id⟩
    · exact ⟨rfl, rfl, rfl, rfl, id⟩
  · exact ⟨rfl, rfl, rfl, rfl, id⟩
theorem lateD_of (d : DiaS) : OfD d (lateD d) := by
  unfold lateD
  split
  · unfold lateR
    split
    · exact ⟨rfl, rfl, rfl, rfl, fun h => ⟨h.1, fun e => by cases e⟩⟩
    · exact ⟨rfl, rfl, rfl, rfl, id⟩
  · exact ⟨rfl, rfl, rfl, rfl, id⟩
theorem Liv.same {a : ActS} (h : Liv G scr a) {d : DiaS} (hd : OfD a.d d) {box : List LT} {pos : Nat} {kn : Int → Bool} (hk : ∀ x, a.knows x = true → kn x = true) : Liv G scr { a with d := d, box := box, pos := pos, waits := false, knows := kn } :=
  ⟨by show G d.r.kid = false; rw [hd.kid]; exact h.kid, by
    show d.r.kid = 0 ∨ kn d.r.kid = true
    rw [hd.kid]
    exact h.kn.imp id (hk _), by show d.r.self = a.ref; rw [hd.self]; exact h.self, by show TameS d.l; rw [hd.l]; exact h.tame, by show makeN scr d.nm = some d.l; rw [hd.l, hd.nm]; exact h.mkn, by show 0 ≤ d.r.kid; rw [hd.kid]; exact h.k0, by show RunnOk d.l d.r; rw [hd.l]; exact hd.ok h.lk, fun e => by cases e⟩
theorem Liv.wake {a : ActS} (h : Liv G scr a) : Liv G scr (wakeA a).1 := by
  unfold wakeA
  split
  · rename_i i hi
    exact h.same (offerD_of _ _) (fun x hx => by rw [hx]; rfl)
  · split
    · exact h.same (lateD_of _) (fun x hx => hx)
    · exact ⟨h.kid, h.kn, h.self, h.tame, h.mkn, h.k0, h.lk, h.w⟩
theorem Liv.go {a : ActS} (h : Liv G scr a) : Liv G scr (goA a).1 := by
  unfold goA
  split
  · exact h.wake
  · exact h
theorem goA_rf (a : ActS) : (goA a).1.ref = a.ref := by
  unfold goA
  split
  · unfold wakeA
    split
    · rfl
    · split <;> rfl
  · rfl
theorem Liv.ran {a : ActS} (h : Liv G scr a) (hw : a.waits = false) (f : Nat) : Liv G scr { a with d := (runD f a.d).1 } ∧ ((runD f a.d).2.kind = 3 ∨ (runD f a.d).2.kind = 5 ∨ (runD f a.d).2.kind = 6 → (runD f a.d).2.num = a.ref ∨ G (runD f a.d).2.num = false) ∧ ((runD f a.d).2.kind = 7 → (runD f a.d).1.r.waiting = true) := by
  obtain ⟨e1, e2, e3, e4⟩ := runD_out f a.d
  have g := runR_tame h.tame f h.lk
  refine ⟨⟨?_, ?_, ?_, ?_, ?_, ?_, ?_, ?_⟩, fun e => ?_, fun e => ?_⟩
  · show G (runD f a.d).1.r.kid = false
    rw [e2, g.kid]; exact h.kid
  · show (runD f a.d).1.r.kid = 0 ∨ a.knows (runD f a.d).1.r.kid = true
    rw [e2, g.kid]; exact h.kn
  · show (runD f a.d).1.r.self = a.ref
    rw [e2, g.self]; exact h.self
  · show TameS (runD f a.d).1.l
    rw [e3]; exact h.tame
  · show makeN scr (runD f a.d).1.nm = some (runD f a.d).1.l
    rw [e3, e4]; exact h.mkn
  · show 0 ≤ (runD f a.d).1.r.kid
    rw [e2, g.kid]; exact h.k0
  · show RunnOk (runD f a.d).1.l (runD f a.d).1.r
    rw [e2, e3]; exact g.ok
  · intro e
    have e : a.waits = true := e
    rw [hw] at e; cases e
  · rw [e1] at e ⊢
    rcases g.asks e with e | e
    · exact .inl (e.trans h.self)
    · right
      rw [e]; exact h.kid
  · rw [e2]
    rw [e1] at e
    exact g.wt e
theorem Liv.wait {a : ActS} (h : Liv G scr a) (hw : a.d.r.waiting = true) (n : Int) : Liv G scr (waitA a n) := ⟨h.kid, .inr (by unfold waitA; simp), h.self, h.tame, h.mkn, h.k0, h.lk, fun _ => hw⟩
theorem Liv.give {a : ActS} (h : Liv G scr a) {x : Int} (hx : G x = false) (hx0 : 0 ≤ x) : Liv G scr (giveA a x) := by
  have key : (giveD a.d x).l = a.d.l ∧ (giveD a.d x).nm = a.d.nm ∧ ((giveD a.d x).r.kid = a.d.r.kid ∨ (giveD a.d x).r.kid = x) ∧ (giveD a.d x).r.self = a.d.r.self ∧ RunnOk a.d.l (giveD a.d x).r ∧ (giveD a.d x).r.waiting = a.d.r.waiting := by
    unfold giveD
    split
    · unfold giveR
      split
      · exact ⟨rfl, rfl, .inr rfl, rfl, h.lk, rfl⟩
      · exact ⟨rfl, rfl, .inl rfl, rfl, h.lk, rfl⟩
    · exact ⟨rfl, rfl, .inl rfl, rfl, h.lk, rfl⟩
  obtain ⟨k1, kn, k2, k3, k4, k5⟩ := key
  refine ⟨?_, ?_, ?_, ?_, ?_, ?_, ?_, ?_⟩
  · show G (giveD a.d x).r.kid = false
    rcases k2 with e | e <;> rw [e]
    · exact h.kid
    · exact hx
  · show (giveD a.d x).r.kid = 0 ∨ (a.knows (giveD a.d x).r.kid || (giveD a.d x).r.kid == x) = true
    rcases k2 with e | e
    · rw [e]
      rcases h.kn with e0 | e0
      · exact .inl e0
      · right; rw [e0]; rfl
    · right
      rw [e]
      simp
  · show (giveD a.d x).r.self = a.ref
    rw [k3]; exact h.self
  · show TameS (giveD a.d x).l
    rw [k1]; exact h.tame
  · show makeN scr (giveD a.d x).nm = some (giveD a.d x).l
    rw [k1, kn]; exact h.mkn
  · show 0 ≤ (giveD a.d x).r.kid
    rcases k2 with e | e <;> rw [e]
    · exact h.k0
    · exact hx0
  · show RunnOk (giveD a.d x).l (giveD a.d x).r
    rw [k1]; exact k4
  · intro e
    show (giveD a.d x).r.waiting = true
    rw [k5]
    exact h.w e
end
/-- M is N without those of G, who wait for ever -/
structure Sim (G : Int → Bool) (c : Nat) (N M : NdS) : Prop where
  id : M.id = N.id
  fuel : M.fuel = N.fuel
  scr : M.scr = N.scr
  homes : M.homes = N.homes
  spawned : M.spawned = N.spawned
  last : M.last = N.last
  out : M.out = N.out
  said : M.said = N.said
  acts : M.acts = N.acts.filter fun a => !G a.ref
  rows : M.rows = N.rows.filter fun r => !G r.ref
  ra : N.rows.map (·.ref) = N.acts.map (·.ref)
  srt : N.acts.Pairwise fun a b => a.ref < b.ref
  dead : ∀ a, a ∈ N.acts → G a.ref = true → a.waits = true ∧ a.ticks < 0 ∧ a.box = []
  liv : ∀ a, a ∈ N.acts → G a.ref = false → Liv G N.scr a
  lrow : ∀ r, r ∈ N.rows → G r.ref = false → (∀ x, x ∈ r.ws → G x = false) ∧ ∀ x, x ∈ r.ls → G x = false
  tame : ∀ l, l ∈ N.scr → TameS l
  id1 : 1 ≤ N.id
  gb : ∀ x, G x = true → 1 ≤ x ∧ x ≤ N.id * 1000 + (N.spawned : Int)
  len : N.acts.length ≤ c
theorem filter_mapR {α : Type} {p : α → Bool} {f : α → α} (h : ∀ a, p (f a) = p a) (l : List α) : (l.map f).filter p = (l.filter p).map f := by
  rw [List.filter_map]
  congr 2
  funext a
  exact h a
theorem find_filterR {α : Type} {p q : α → Bool} (l : List α) (h : ∀ a, q a = true → p a = true) : (l.filter p).find? q = l.find? q := by
  rw [List.find?_filter]
  congr 1
  funext a
  rcases hq : q a with _ | _
  · simp
  · simp [h a hq]
section
variable {G : Int → Bool} {c : Nat} {N M : NdS}
theorem Sim.up (h : Sim G c N M) {c' : Nat} (hc : c ≤ c') : Sim G c' N M := { h with len := Nat.le_trans h.len hc }
theorem Sim.find (h : Sim G c N M) {r : Int} (hr : G r = false) : M.find r = N.find r := by
  unfold NdS.find
  rw [h.acts]
  refine find_filterR _ (fun a ha => ?_)
  have e : a.ref = r := by simpa using ha
  rw [e, hr]
  rfl
theorem Sim.has (h : Sim G c N M) {r : Int} (hr : G r = false) : M.has r = N.has r := by
  unfold NdS.has
  rw [h.find hr]
theorem Sim.row (h : Sim G c N M) {r : Int} (hr : G r = false) : rowL M.rows r = rowL N.rows r := by
  unfold rowL
  rw [h.rows]
  refine find_filterR _ (fun a ha => ?_)
  have e : a.ref = r := by simpa using ha
  rw [e, hr]
  rfl
theorem Sim.setA (h : Sim G c N M) {a : ActS} (hr : G a.ref = false) (hl : Liv G N.scr a) : Sim G c (N.setA a) (M.setA a) := by
  refine { h with acts := ?_, ra := ?_, srt := ?_, dead := ?_, liv := ?_, len := ?_ }
  · show M.acts.map _ = (N.acts.map _).filter _
    rw [h.acts]
    refine (filter_mapR (fun b => ?_) _).symm
    split
    · rename_i e
      have e : b.ref = a.ref := by simpa using e
      rw [e]
    · rfl
  · show N.rows.map (·.ref) = (N.setA a).acts.map (·.ref)
    rw [refs_setA]
    exact h.ra
  · exact srt_refs (refs_setA a) h.srt
  · intro b hb hg
    rcases mem_setA.1 hb with ⟨_, _, _, rfl⟩ | ⟨hb, _⟩
    · rw [hr] at hg; cases hg
    · exact h.dead b hb hg
  · intro b hb hg
    rcases mem_setA.1 hb with ⟨_, _, _, rfl⟩ | ⟨hb, _⟩
    · exact hl
    · exact h.liv b hb hg
  · rw [len_setA]; exact h.len
theorem Sim.mapRows (h : Sim G c N M) (f : Li.LR → Li.LR) (hf : ∀ r, (f r).ref = r.ref) (hl : ∀ r, G r.ref = false → (∀ x, x ∈ r.ws → G x = false) ∧ (∀ x, x ∈ r.ls → G x = false) → (∀ x, x ∈ (f r).ws → G x = false) ∧ ∀ x, x ∈ (f r).ls → G x = false) :
    Sim G c { N with rows := N.rows.map f } { M with rows := M.rows.map f } := by
  refine { h with rows := ?_, ra := ?_, lrow := ?_ }
  · show M.rows.map f = (N.rows.map f).filter _
    rw [h.rows]
    exact (filter_mapR (fun r => by rw [hf r]) _).symm
  · show (N.rows.map f).map (·.ref) = N.acts.map (·.ref)
    rw [List.map_map, ← h.ra]
    exact List.map_congr_left (fun r _ => hf r)
  · intro r hr hg
    obtain ⟨r0, hr0, rfl⟩ := List.mem_map.1 hr
    rw [hf r0] at hg
    exact hl r0 hg (h.lrow r0 hr0 hg)
theorem mem_snoc {y : Int} {l : List Int} {P : Int → Prop} (h : ∀ x, x ∈ l → P x) (hy : P y) : ∀ x, x ∈ l ++ [y] → P x := fun x hx => by
  rcases List.mem_append.1 hx with hx | hx
  · exact h x hx
  · rw [List.mem_singleton.1 hx]; exact hy
theorem Sim.watch (h : Sim G c N M) {x ref : Int} (hx : G x = false) : Sim G c { N with rows := watchL N.rows x ref } { M with rows := watchL M.rows x ref } := by
  refine h.mapRows _ (fun r => ?_) (fun r hg hl => ?_)
  · split <;> rfl
  · split
    · exact ⟨mem_snoc (P := fun x => G x = false) hl.1 hx, hl.2⟩
    · exact hl
theorem Sim.link (h : Sim G c N M) {x ref : Int} (hx : G x = false) : Sim G c { N with rows := linkL N.rows ref x } { M with rows := linkL M.rows ref x } := by
  refine h.mapRows _ (fun r => ?_) (fun r hg hl => ?_)
  · split <;> rfl
  · split
    · exact ⟨hl.1, mem_snoc (P := fun x => G x = false) hl.2 hx⟩
    · exact hl
theorem Sim.addOut (h : Sim G c N M) (l : List LT) : Sim G c { N with out := N.out ++ l } { M with out := M.out ++ l } := { h with out := by show M.out ++ l = N.out ++ l; rw [h.out] }
theorem Sim.addSaid (h : Sim G c N M) (l : List (Int × Int)) : Sim G c { N with said := N.said ++ l } { M with said := M.said ++ l } := { h with said := by show M.said ++ l = N.said ++ l; rw [h.said] }
theorem map_filterR {α : Type} (f : α → Int) (q : Int → Bool) (l : List α) : (l.filter fun a => q (f a)).map f = (l.map f).filter q := by
  rw [List.filter_map]
  rfl
theorem Sim.del (h : Sim G c N M) {ref : Int} (hr : G ref = false) : Sim G c { N.delA ref with rows := goneL N.rows ref } { M.delA ref with rows := goneL M.rows ref } := by
  refine { h with acts := ?_, rows := ?_, ra := ?_, srt := ?_, dead := ?_, liv := ?_, lrow := ?_, len := ?_ }
  · show M.acts.filter _ = (N.acts.filter _).filter _
    rw [h.acts, List.filter_filter, List.filter_filter]
    congr 1
    funext a
    exact Bool.and_comm _ _
  · show M.rows.filter _ = (N.rows.filter _).filter _
    rw [h.rows, List.filter_filter, List.filter_filter]
    congr 1
    funext a
    exact Bool.and_comm _ _
  · show (N.rows.filter _).map (·.ref) = (N.acts.filter _).map (·.ref)
    rw [map_filterR (fun r : Li.LR => r.ref) (fun x => !(x == ref)), map_filterR (fun a : ActS => a.ref) (fun x => !(x == ref)), h.ra]
  · exact h.srt.filter _
  · exact fun a ha => h.dead a (mem_delA.1 ha).1
  · exact fun a ha => h.liv a (mem_delA.1 ha).1
  · exact fun r hr' => h.lrow r (List.mem_filter.1 hr').1
  · exact Nat.le_trans (List.length_filter_le _ _) h.len
/-- how one is removed, on both -/
def RemSim (G : Int → Bool) (rem : NdS → Int → ByteArray → NdS) : Prop := ∀ c N M r t, Sim G c N M → G r = false → Sim G c (rem N r t) (rem M r t)
variable {rem : NdS → Int → ByteArray → NdS}
theorem Sim.dlv (hr : RemSim G rem) (h : Sim G c N M) {x : LT} (ht : G x.to = false) (hf : G x.frm = false) : Sim G c (deliverW rem N x) (deliverW rem M x) := by
  unfold deliverW
  split
  · rw [h.find ht]
    rcases ha : N.find x.to with _ | a
    · exact h
    · obtain ⟨hm, e⟩ := find_some ha
      have e2 : (putBox a x).ref = x.to := by
        unfold putBox
        split <;> exact e
      exact h.setA (by rw [e2]; exact ht) ((h.liv a hm (by rw [e]; exact ht)).put x)
  split
  · exact h.watch hf
  split
  · exact h.link hf
  split
  · have e : linkedL M.rows x.to x.frm = linkedL N.rows x.to x.frm := by
      unfold linkedL
      rw [h.row ht]
    rw [e]
    split
    · exact hr _ _ _ _ _ h ht
    · exact h
  · exact h
theorem Sim.loc (h : Sim G c N M) (r : Int) : locN M r = locN N r := by
  unfold locN
  rw [h.homes, h.id]
theorem Sim.snd1 (hr : RemSim G rem) (h : Sim G c N M) {x : LT} (ht : G x.to = false) (hf : G x.frm = false) : Sim G c (send1W rem N x) (send1W rem M x) := by
  unfold send1W
  rw [h.has ht]
  split
  · exact h.dlv hr ht hf
  · by_cases hc : locN N x.to ≠ N.id
    · rw [if_pos hc, if_pos (by rw [h.loc, h.id]; exact hc)]
      exact h.addOut _
    · rw [if_neg hc, if_neg (by rw [h.loc, h.id]; exact hc)]
      exact h
theorem Sim.rpl (hr : RemSim G rem) (h : Sim G c N M) {x : LT} (ht : G x.to = false) (hf : G x.frm = false) : Sim G c (replyW rem N x) (replyW rem M x) := by
  unfold replyW
  rcases hy : noneL x with _ | y
  · exact h
  · have e : y.to = x.frm ∧ y.frm = x.to := by
      unfold noneL at hy
      split at hy
      · cases hy; exact ⟨rfl, rfl⟩
      · split at hy
        · cases hy; exact ⟨rfl, rfl⟩
        · cases hy
    exact h.snd1 hr (by rw [e.1]; exact hf) (by rw [e.2]; exact ht)
theorem Sim.snd (hr : RemSim G rem) (h : Sim G c N M) {x : LT} (ht : G x.to = false) (hf : G x.frm = false) : Sim G c (sendW rem N x) (sendW rem M x) := by
  unfold sendW
  rw [h.has ht]
  split
  · exact h.dlv hr ht hf
  · by_cases hc : locN N x.to ≠ N.id
    · rw [if_pos hc, if_pos (by rw [h.loc, h.id]; exact hc)]
      exact h.addOut _
    · rw [if_neg hc, if_neg (by rw [h.loc, h.id]; exact hc)]
      exact h.rpl hr ht hf
theorem Sim.fold (hr : RemSim G rem) : ∀ (l : List LT) {N M : NdS}, Sim G c N M → (∀ x, x ∈ l → G x.to = false ∧ G x.frm = false) → Sim G c (l.foldl (sendW rem) N) (l.foldl (sendW rem) M)
  | [], N, M, h, _ => h
  | x :: l, N, M, h, hl => Sim.fold hr l (h.snd hr (hl x (by simp)).1 (hl x (by simp)).2) (fun y hy => hl y (by simp [hy]))
end
theorem remN_sim (G : Int → Bool) : ∀ (k c : Nat) (N M : NdS) (ref : Int) (failed : Bool) (text : ByteArray), Sim G c N M → G ref = false → Sim G c (remN k N ref failed text) (remN k M ref failed text)
  | 0, c, N, M, _, _, _, h, _ => h
  | k + 1, c, N, M, ref, failed, text, h, hr => by
    unfold remN
    have e : tellL M.rows ref failed text = tellL N.rows ref failed text := by
      unfold tellL
      rw [h.row hr]
    rw [e]
    refine Sim.fold (fun c N M r t h hr => remN_sim G k c N M r true t h hr) _ (h.del hr) (fun x hx => ?_)
    unfold tellL at hx
    rcases hrow : rowL N.rows ref with _ | r
    · rw [hrow] at hx; cases hx
    · rw [hrow] at hx
      have hm : r ∈ N.rows := by
        unfold rowL at hrow
        exact List.mem_of_find?_eq_some hrow
      have e : r.ref = ref := by
        unfold rowL at hrow
        simpa using List.find?_some hrow
      obtain ⟨hw, hl⟩ := h.lrow r hm (by rw [e]; exact hr)
      rcases List.mem_append.1 hx with hx | hx
      · obtain ⟨y, hy, rfl⟩ := List.mem_map.1 hx
        exact ⟨hw y hy, hr⟩
      · split at hx
        · obtain ⟨y, hy, rfl⟩ := List.mem_map.1 hx
          exact ⟨hl y hy, hr⟩
        · cases hx
theorem rem60_sim (G : Int → Bool) : RemSim G fun M r t => remN 60 M r true t := fun c N M r t h hr => remN_sim G 60 c N M r true t h hr
def insI (x : Int) : List Int → List Int
  | [] => [x]
  | y :: l => if x < y then x :: y :: l else y :: insI x l
theorem refs_insA (a : ActS) : ∀ l : List ActS, (insA a l).map (·.ref) = insI a.ref (l.map (·.ref))
  | [] => rfl
  | b :: l => by
    unfold insA
    show _ = if a.ref < b.ref then _ else _
    split
    · rfl
    · show b.ref :: _ = b.ref :: _
      rw [refs_insA a l]
theorem refs_addL (ref : Int) : ∀ l : List Li.LR, (addL l ref).map (·.ref) = insI ref (l.map (·.ref))
  | [] => rfl
  | b :: l => by
    unfold addL
    show _ = if ref < b.ref then _ else _
    split
    · rfl
    · show b.ref :: _ = b.ref :: _
      rw [refs_addL ref l]
theorem filter_insA {p : ActS → Bool} {a : ActS} (hp : p a = true) : ∀ {l : List ActS}, l.Pairwise (fun a b => a.ref < b.ref) → (insA a l).filter p = insA a (l.filter p)
  | [], _ => by simp [insA, hp]
  | b :: l, hs => by
    have hs' := List.pairwise_cons.1 hs
    conv => lhs; unfold insA
    split
    · rename_i hlt
      rw [List.filter_cons, if_pos hp]
      have key : ∀ k : List ActS, (∀ d, d ∈ k → a.ref < d.ref) → a :: k = insA a k := fun k hk => by
        cases k with
        | nil => rfl
        | cons d k => unfold insA; rw [if_pos (hk d (by simp))]
      rw [key]
      intro d hd
      have hd := (List.mem_filter.1 hd).1
      rcases List.mem_cons.1 hd with rfl | hd
      · exact hlt
      · have := hs'.1 d hd; omega
    · rename_i hlt
      rw [List.filter_cons, List.filter_cons]
      split
      · rw [filter_insA hp hs'.2]
        conv => rhs; unfold insA
        rw [if_neg hlt]
      · exact filter_insA hp hs'.2
theorem filter_addL {p : Li.LR → Bool} {ref : Int} (hp : p ⟨ref, [], []⟩ = true) : ∀ {l : List Li.LR}, l.Pairwise (fun a b => a.ref < b.ref) → (addL l ref).filter p = addL (l.filter p) ref
  | [], _ => by simp [addL, hp]
  | b :: l, hs => by
    have hs' := List.pairwise_cons.1 hs
    conv => lhs; unfold addL
    split
    · rename_i hlt
      rw [List.filter_cons, if_pos hp]
      have key : ∀ k : List Li.LR, (∀ d, d ∈ k → ref < d.ref) → ⟨ref, [], []⟩ :: k = addL k ref := fun k hk => by
        cases k with
        | nil => rfl
        | cons d k => unfold addL; rw [if_pos (hk d (by simp))]
      rw [key]
      intro d hd
      have hd := (List.mem_filter.1 hd).1
      rcases List.mem_cons.1 hd with rfl | hd
      · exact hlt
      · have := hs'.1 d hd; omega
    · rename_i hlt
      rw [List.filter_cons, List.filter_cons]
      split
      · rw [filter_addL hp hs'.2]
        conv => rhs; unfold addL
        rw [if_neg hlt]
      · exact filter_addL hp hs'.2
theorem mem_addL' {ref : Int} {r : Li.LR} : ∀ {rows : List Li.LR}, r ∈ addL rows ref → r = ⟨ref, [], []⟩ ∨ r ∈ rows
  | [], h => by
    unfold addL at h
    exact .inl (List.mem_singleton.1 h)
  | b :: l, h => by
    unfold addL at h
    split at h
    · rcases List.mem_cons.1 h with h | h
      · exact .inl h
      · exact .inr h
    · rcases List.mem_cons.1 h with h | h
      · exact .inr (by simp [h])
      · rcases mem_addL' h with h | h
        · exact .inl h
        · exact .inr (by simp [h])
theorem makeN_mem {scr : List (List Stp)} {nm : ByteArray} {l : List Stp} (h : makeN scr nm = some l) : l ∈ scr := by
  unfold makeN at h
  split at h
  · split at h
    · cases h
    · exact List.mem_of_getElem? h
  · cases h
section
variable {G : Int → Bool} {c : Nat} {N M : NdS}
theorem Sim.spawn (h : Sim G c N M) (hc : c < 60 ∨ ∀ x, G x = false) (nm : ByteArray) : Sim G (c + 1) (spawnN N nm).1 (spawnN M nm).1 ∧ (spawnN M nm).2 = (spawnN N nm).2 ∧ G (spawnN N nm).2.1 = false ∧ 0 ≤ (spawnN N nm).2.1 ∧ (spawnN N nm).1.scr = N.scr := by
  have g0 : G 0 = false := by
    rcases hg : G 0 with _ | _
    · rfl
    · have := (h.gb 0 hg).1; omega
  unfold spawnN
  dsimp only
  rw [h.scr, h.id, h.spawned]
  rcases hmk : makeN N.scr nm with _ | l
  · exact ⟨h.up (Nat.le_succ _), rfl, g0, Int.le_refl _, rfl⟩
  dsimp only
  generalize href : N.id * 1000 + (N.spawned : Int) + 1 = ref
  have hgr : G ref = false := by
    rcases hg : G ref with _ | _
    · rfl
    · have := (h.gb ref hg).2; omega
  rw [h.has hgr]
  rcases hhas : N.has ref with _ | _
  rotate_left
  · exact ⟨h.up (Nat.le_succ _), rfl, g0, Int.le_refl _, rfl⟩
  rw [if_neg (show ¬ (false = true) by decide), if_neg (show ¬ (false = true) by decide)]
  have hcond : (60 ≤ M.acts.length ∨ 999 ≤ N.spawned) ↔ (60 ≤ N.acts.length ∨ 999 ≤ N.spawned) := by
    rcases hc with hc | hc
    · have h1 := h.len
      have h2 : M.acts.length ≤ N.acts.length := by rw [h.acts]; exact List.length_filter_le _ _
      omega
    · have : M.acts = N.acts := by
        rw [h.acts]
        exact List.filter_eq_self.2 (fun a _ => by rw [hc]; rfl)
      rw [this]
  by_cases hcd : 60 ≤ N.acts.length ∨ 999 ≤ N.spawned
  · rw [if_pos hcd, if_pos (hcond.2 hcd)]
    exact ⟨h.up (Nat.le_succ _), rfl, g0, Int.le_refl _, rfl⟩
  rw [if_neg hcd, if_neg (fun e => hcd (hcond.1 e))]
  have hrl : N.rows.length = N.acts.length := by
    have := congrArg List.length h.ra
    simpa using this
  have hnone : rowL N.rows ref = none := by
    rcases hrow : rowL N.rows ref with _ | r
    · rfl
    · exfalso
      unfold rowL at hrow
      have hm := List.mem_of_find?_eq_some hrow
      have e : r.ref = ref := by simpa using List.find?_some hrow
      have : ref ∈ N.acts.map (·.ref) := by
        rw [← h.ra, ← e]
        exact List.mem_map.2 ⟨r, hm, rfl⟩
      obtain ⟨a, ha, e2⟩ := List.mem_map.1 this
      have := has_iff.2 ⟨a, ha, e2⟩
      rw [hhas] at this
      cases this
  have hid := h.id1
  have haN : addR N.rows ref = addL N.rows ref := by
    unfold addR
    rw [hnone, if_neg]
    intro e
    rcases e with e | e | e
    · omega
    · cases e
    · omega
  have hml : M.rows.length ≤ N.rows.length := by rw [h.rows]; exact List.length_filter_le _ _
  have haM : addR M.rows ref = addL M.rows ref := by
    unfold addR
    rw [h.row hgr, hnone, if_neg]
    intro e
    rcases e with e | e | e
    · omega
    · cases e
    · omega
  have hrs : N.rows.Pairwise fun a b => a.ref < b.ref := by
    have h1 : (N.acts.map (·.ref)).Pairwise (· < ·) := List.pairwise_map.2 h.srt
    rw [← h.ra] at h1
    exact List.pairwise_map.1 h1
  have hne : ∀ b, b ∈ N.acts → b.ref ≠ ref := fun b hb e => by
    have := has_iff.2 ⟨b, hb, e⟩
    rw [hhas] at this
    cases this
  rw [haN, haM]
  refine ⟨?_, rfl, hgr, (by show 0 ≤ ref; omega), rfl⟩
  refine { h with spawned := ?_, acts := ?_, rows := ?_, ra := ?_, srt := ?_, dead := ?_, liv := ?_, lrow := ?_, gb := ?_, len := ?_, id := ?_, scr := ?_ }
  · rfl
  · rfl
  · rfl
  · show insA _ M.acts = (insA _ N.acts).filter _
    rw [h.acts, filter_insA (by show (!G ref) = true; rw [hgr]; rfl) h.srt]
  · show addL M.rows ref = (addL N.rows ref).filter _
    rw [h.rows, filter_addL (by show (!G ref) = true; rw [hgr]; rfl) hrs]
  · show (addL N.rows ref).map (·.ref) = (insA _ N.acts).map (·.ref)
    rw [refs_insA, refs_addL, h.ra]
  · exact srt_insA h.srt hne
  · intro b hb hg
    rcases mem_insA.1 hb with rfl | hb
    · rw [show G ref = true from hg] at hgr; cases hgr
    · exact h.dead b hb hg
  · intro b hb hg
    rcases mem_insA.1 hb with rfl | hb
    · exact ⟨g0, .inl rfl, rfl, h.tame l (makeN_mem hmk), hmk, Int.le_refl _, ⟨fun e => (by cases e), fun e => (by cases e)⟩, fun e => (by cases e)⟩
    · exact h.liv b hb hg
  · intro r hr hg
    rcases mem_addL' hr with rfl | hr
    · exact ⟨fun x hx => (by cases hx), fun x hx => (by cases hx)⟩
    · exact h.lrow r hr hg
  · intro x hx
    have := h.gb x hx
    refine ⟨this.1, ?_⟩
    show x ≤ N.id * 1000 + ((N.spawned + 1 : Nat) : Int)
    omega
  · show (insA _ N.acts).length ≤ c + 1
    rw [len_insA]
    have := h.len
    omega
theorem Sim.arm (h : Sim G c N M) (hc : c < 60 ∨ ∀ x, G x = false) {r : Int} {a : ActS} {o : OutS} (hr : G r = false) (ha : Liv G N.scr a) (hw7 : o.kind = 7 → a.d.r.waiting = true) (hra : a.ref = r) (ho : o.kind = 3 ∨ o.kind = 5 ∨ o.kind = 6 → G o.num = false) : Sim G (c + 1) (armN N r a o).1 (armN M r a o).1 ∧ (armN M r a o).2 = (armN N r a o).2 := by
  have hu : ∀ {N M : NdS}, Sim G c N M → Sim G (c + 1) N M := fun h => h.up (Nat.le_succ _)
  unfold armN
  split
  · exact ⟨hu (h.addSaid _), rfl⟩
  split
  · rename_i e
    exact ⟨hu (h.snd (rem60_sim G) (ho (.inl e)) hr), rfl⟩
  split
  · rename_i e
    exact ⟨hu (h.snd (rem60_sim G) (ho (.inr (.inl e))) hr), rfl⟩
  split
  · rename_i e
    exact ⟨hu ((h.link (ho (.inr (.inr e)))).snd (rem60_sim G) (ho (.inr (.inr e))) hr), rfl⟩
  split
  · obtain ⟨h1, h2, h3, h30, h4⟩ := h.spawn hc o.text
    refine ⟨?_, rfl⟩
    dsimp only
    rw [h1.find hr, h2]
    rcases hf : (spawnN N o.text).1.find r with _ | b
    · exact h1
    · obtain ⟨hm, e⟩ := find_some hf
      exact h1.setA (by show G b.ref = false; rw [e]; exact hr) ((h1.liv b hm (by rw [e]; exact hr)).give h3 h30)
  split
  · rename_i e
    exact ⟨hu (h.setA (by show G a.ref = false; rw [hra]; exact hr) (ha.wait (hw7 e) _)), rfl⟩
  split
  · exact ⟨hu (remN_sim G 60 c N M r false _ h hr), rfl⟩
  split
  · exact ⟨hu (remN_sim G 60 c N M r true _ h hr), rfl⟩
  · exact ⟨hu h, rfl⟩
theorem Sim.step (h : Sim G c N M) (hc : c < 60 ∨ ∀ x, G x = false) {r : Int} (hr : G r = false) : Sim G (c + 1) (stepN N r).1 (stepN M r).1 ∧ (stepN M r).2 = (stepN N r).2 := by
  rcases ha : N.find r with _ | a
  · have ha' : M.find r = none := by rw [h.find hr, ha]
    unfold stepN
    rw [ha, ha']
    exact ⟨h.up (Nat.le_succ _), rfl⟩
  · have ha' : M.find r = some a := by rw [h.find hr, ha]
    obtain ⟨hm, e⟩ := find_some ha
    have hl := (h.liv a hm (by rw [e]; exact hr)).go
    have e2 : (goA a).1.ref = r := (goA_rf a).trans e
    have hg1 : G (goA a).1.ref = false := by rw [e2]; exact hr
    rcases hg : (goA a).2 with _ | _
    · rw [stepN_no ha hg, stepN_no ha' hg]
      exact ⟨(h.setA hg1 hl).up (Nat.le_succ _), rfl⟩
    · rw [stepN_go ha hg, stepN_go ha' hg]
      have eM : ranA M a = ranA N a := by unfold ranA; rw [h.fuel]
      rw [eM, h.fuel]
      obtain ⟨hl2, hask, hw7⟩ := hl.ran (goA_waits hg) N.fuel
      refine ((h.setA hg1 hl).setA (a := ranA N a) (by show G (goA a).1.ref = false; exact hg1) hl2).arm hc hr hl2 hw7 e2 (fun ek => ?_)
      rcases hask ek with e3 | e3
      · rw [e3]; exact hg1
      · exact e3
theorem Sim.loop : ∀ (k : Nat) {c : Nat} {N M : NdS} {r : Int}, Sim G c N M → (c + k ≤ 60 ∨ ∀ x, G x = false) → G r = false → Sim G (c + k) (loopN k N r) (loopN k M r)
  | 0, c, N, M, r, h, _, _ => h
  | k + 1, c, N, M, r, h, hc, hr => by
    unfold loopN
    rw [h.has hr]
    split
    · obtain ⟨h1, h2⟩ := h.step (hc.imp (fun e => by omega) (fun e => e)) hr
      rw [h2]
      split
      · have := Sim.loop k h1 (hc.imp (fun e => by omega) (fun e => e)) hr
        exact this.up (by omega)
      · exact h1.up (by omega)
    · exact h.up (by omega)
theorem Sim.ready (h : Sim G c N M) : readyN M = readyN N ∧ ∀ x, x ∈ readyN N → G x = false := by
  have key : ∀ a, a ∈ N.acts → canA a = true → G a.ref = false := fun a ha hcan => by
    rcases hg : G a.ref with _ | _
    · rfl
    · exfalso
      obtain ⟨h1, h2, h3⟩ := h.dead a ha hg
      have h4 : decide (a.ticks = 0) = false := decide_eq_false (by omega)
      unfold canA at hcan
      rw [h1, h3, h4] at hcan
      simp at hcan
  refine ⟨?_, fun x hx => ?_⟩
  · unfold readyN
    rw [h.acts, List.filter_filter]
    congr 1
    refine List.filter_congr (fun a ha => ?_)
    rcases hcan : canA a with _ | _
    · simp
    · simp [key a ha hcan]
  · unfold readyN at hx
    obtain ⟨a, ha, rfl⟩ := List.mem_map.1 hx
    exact key a (List.mem_filter.1 ha).1 (List.mem_filter.1 ha).2
theorem Sim.turn (h : Sim G c N M) (hc : c + N.fuel ≤ 60 ∨ ∀ x, G x = false) : Sim G (c + N.fuel) (turnN N).1 (turnN M).1 := by
  obtain ⟨h1, h2⟩ := h.ready
  unfold turnN
  rw [h1]
  split
  · exact h.up (by omega)
  · rename_i h0
    rw [h.last, h.fuel]
    exact Sim.loop N.fuel (c := c) (N := { N with last := nextI (readyN N) N.last }) { h with last := rfl, fuel := rfl } hc (h2 _ (nextI_mem h0 _))
theorem Sim.tick (h : Sim G c N M) : Sim G c (tickN N) (tickN M) := by
  have hrf : ∀ a : ActS, (tickA a).ref = a.ref := fun a => by unfold tickA; split <;> rfl
  refine { h with acts := ?_, ra := ?_, srt := ?_, dead := ?_, liv := ?_, len := ?_ }
  · show M.acts.map tickA = (N.acts.map tickA).filter _
    rw [h.acts]
    exact (filter_mapR (fun a => by rw [hrf a]) _).symm
  · show N.rows.map (·.ref) = (N.acts.map tickA).map (·.ref)
    rw [List.map_map, h.ra]
    exact (List.map_congr_left (fun a _ => hrf a)).symm
  · exact srt_refs (by show (N.acts.map tickA).map (·.ref) = _; rw [List.map_map]; exact List.map_congr_left (fun a _ => hrf a)) h.srt
  · intro b hb hg
    have hb : b ∈ N.acts.map tickA := hb
    obtain ⟨a, ha, rfl⟩ := List.mem_map.1 hb
    rw [hrf a] at hg
    obtain ⟨d1, d2, d3⟩ := h.dead a ha hg
    unfold tickA
    rw [if_neg (by simp; omega)]
    exact ⟨d1, d2, d3⟩
  · intro b hb hg
    have hb : b ∈ N.acts.map tickA := hb
    obtain ⟨a, ha, rfl⟩ := List.mem_map.1 hb
    rw [hrf a] at hg
    unfold tickA
    have hl := h.liv a ha hg
    split
    · exact ⟨hl.kid, hl.kn, hl.self, hl.tame, hl.mkn, hl.k0, hl.lk, hl.w⟩
    · exact hl
  · show (N.acts.map _).length ≤ c
    rw [List.length_map]; exact h.len
theorem Sim.put (h : Sim G c N M) {x : LT} (ht : G x.to = false) (hf : G x.frm = false) : Sim G c (putN N x).1 (putN M x).1 := by
  unfold putN
  split
  · exact h
  · rw [h.find ht]
    rcases N.find x.to with _ | a
    · exact h.rpl (rem60_sim G) ht hf
    · dsimp only
      split
      · exact h
      · exact h.dlv (rem60_sim G) ht hf
theorem Sim.refs (h : Sim G c N M) : refsN M = (refsN N).filter fun x => !G x := by
  unfold refsN
  rw [h.acts, map_filterR (fun a : ActS => a.ref) (fun x => !G x)]
/-- a deed of both -/
theorem Sim.deed (h : Sim G c N M) (d : Dd) (hk : (∀ x, G x = false) ∨ ((d.kind = 3 ∨ d.kind = 4) ∧ c + N.fuel ≤ 60)) : ∃ c', Sim G c' (doN N d) (doN M d) := by
  unfold doN
  split
  · rename_i e
    rcases hk with hk | ⟨e2, _⟩
    · exact ⟨_, (h.spawn (.inr hk) _).1⟩
    · omega
  split
  · rename_i e
    rcases hk with hk | ⟨e2, _⟩
    · have e1 : refsN M = refsN N := by
        rw [h.refs]
        exact List.filter_eq_self.2 (fun x _ => by rw [hk]; rfl)
      have e2 : msgD M d = msgD N d := by
        unfold msgD toD
        rw [e1]
      rw [e1, e2]
      split
      · exact ⟨_, h⟩
      · exact ⟨_, h.put (hk _) (hk _)⟩
    · omega
  split
  · exact ⟨_, h.turn (hk.elim .inr (fun e => .inl e.2))⟩
  split
  · exact ⟨_, h.tick⟩
  · exact ⟨_, h⟩
theorem Sim.fit (h : Sim G c N M) : Sim G N.acts.length N M := { h with len := Nat.le_refl _ }
end
end Go.Proofs.YtjjfglbcikaicaaGreat
namespace Go.Proofs.YtjjfglbcikaicaaGreat
open Go.RowKit
set_option linter.unusedVariables false
set_option linter.unusedSimpArgs false
theorem tameL_tame (L : List (List Stp)) : ∀ l, l ∈ tameL L → TameS l := fun l hl => by
  unfold tameL at hl
  obtain ⟨l0, hl0, rfl⟩ := List.mem_map.1 hl
  intro s hs hk
  unfold tameScr at hs
  obtain ⟨q, hq, rfl⟩ := List.mem_map.1 hs
  unfold tameStp at hk ⊢
  dsimp only at hk ⊢
  rw [if_pos hk]
  omega
theorem doN_fuel (N : NdS) (d : Dd) : (doN N d).fuel = N.fuel ∧ (doN N d).id = N.id ∧ (doN N d).scr = N.scr := by
  unfold doN
  split
  · have := spawnN_keep N (nmD d.n); exact ⟨this.fuel, this.id, this.scr⟩
  split
  · split
    · exact ⟨rfl, rfl, rfl⟩
    · have := putN_keep N (msgD N d); exact ⟨this.fuel, this.id, this.scr⟩
  split
  · unfold turnN
    split
    · exact ⟨rfl, rfl, rfl⟩
    · have := loopN_keep N.fuel { N with last := nextI (readyN N) N.last } (nextI (readyN N) N.last)
      exact ⟨this.fuel, this.id, this.scr⟩
  split
  · exact ⟨rfl, rfl, rfl⟩
  · exact ⟨rfl, rfl, rfl⟩
theorem foldl_fuel : ∀ (l : List Dd) (N : NdS), (l.foldl doN N).fuel = N.fuel ∧ (l.foldl doN N).id = N.id
  | [], N => ⟨rfl, rfl⟩
  | d :: l, N => by
    obtain ⟨h1, h2⟩ := foldl_fuel l (doN N d)
    obtain ⟨k1, k2, _⟩ := doN_fuel N d
    exact ⟨h1.trans k1, h2.trans k2⟩
theorem begunN_fuel (L : List (List Stp)) (x : Int) (l : List Dd) : (begunN L x l).fuel ≤ 20 ∧ (begunN L x l).id = 1 := by
  obtain ⟨h1, h2⟩ := foldl_fuel (l.take 40) (newN 1 L (fuelN x))
  refine ⟨?_, h2⟩
  show (List.foldl doN _ _).fuel ≤ 20
  rw [h1]
  exact (fuelN_le x).2
/-- a node that is begun, beside itself -/
theorem begun_sim {L : List (List Stp)} (hL : ∀ l, l ∈ L → TameS l) (x : Int) (l : List Dd) : ∃ c, Sim (fun _ => false) c (begunN L x l) (begunN L x l) := by
  have h0 : Sim (fun _ => false) 0 (newN 1 L (fuelN x)) (newN 1 L (fuelN x)) :=
    { id := rfl, fuel := rfl, scr := rfl, homes := rfl, spawned := rfl, last := rfl, out := rfl, said := rfl, acts := rfl, rows := rfl, ra := rfl, srt := List.Pairwise.nil, dead := fun a ha => (by cases ha), liv := fun a ha => (by cases ha), lrow := fun a ha => (by cases ha), tame := hL, id1 := (by show (1 : Int) ≤ 1; omega), gb := fun x hx => (by cases hx), len := Nat.le_refl _ }
  have key : ∀ (l : List Dd) (c : Nat) (N : NdS), Sim (fun _ => false) c N N → ∃ c', Sim (fun _ => false) c' (l.foldl doN N) (l.foldl doN N) := fun l => by
    induction l with
    | nil => intro c N h; exact ⟨c, h⟩
    | cons d l ih =>
      intro c N h
      obtain ⟨c1, h1⟩ := h.deed d (.inl fun _ => rfl)
      exact ih c1 _ h1
  exact key (l.take 40) 0 _ h0
theorem find_uniqR {r : Li.LR} : ∀ {l : List Li.LR}, l.Pairwise (fun a b => a.ref < b.ref) → r ∈ l → rowL l r.ref = some r
  | [], _, h => by cases h
  | b :: l, hs, h => by
    have hs' := List.pairwise_cons.1 hs
    unfold rowL
    rcases List.mem_cons.1 h with rfl | h
    · exact List.find?_cons_of_pos (by simp)
    · have := hs'.1 r h
      rw [List.find?_cons_of_neg (by simp; omega)]
      exact find_uniqR hs'.2 h
end Go.Proofs.YtjjfglbcikaicaaGreat
namespace Go.Proofs.YtjjfglbcikaicaaGreat
open Go.RowKit
set_option linter.unusedVariables false
set_option linter.unusedSimpArgs false
/-- a parcel as data -/
structure PclS where
  ref : Int
  nm : ByteArray
  st : Nat → VT
  box : List LT
  ticks : Int
  ws : List Int
  ls : List Int
/-- a parcel whose rows lie in blocks of S -/
def PclAt (w : World) (S : Nat → Prop) (p : PclS) (cs : List Value) : Prop :=
  ∃ A2 c2 A4 c4 v6 v7, cs = [.int .i64 p.ref, .string p.nm, .slice A2 2 c2, .slice none 0 0, .slice A4 p.box.length c4, .int .i64 p.ticks, v6, v7] ∧ 2 ≤ c2 ∧ c2 ≤ 9223372036854775807 ∧ p.box.length ≤ c4 ∧ c4 ≤ 9223372036854775807 ∧
    RdV w S A2 2 p.st ∧ RdL w S A4 p.box.length (nthL p.box) ∧ NumIn w S v6 p.ws ∧ NumIn w S v7 p.ls
theorem PclAt.fr {w w' : World} {S S' D : Nat → Prop} {p : PclS} {cs : List Value} (h : PclAt w S p cs) (hf : Fr D w w') (hS : ∀ k, S k → ¬ D k) (hS' : ∀ k, S k → S' k) : PclAt w' S' p cs := by
  obtain ⟨A2, c2, A4, c4, v6, v7, e, h1, h2, h3, h4, h5, h6, h7, h8⟩ := h
  exact ⟨A2, c2, A4, c4, v6, v7, e, h1, h2, h3, h4, h5.frame hf.size (fun b hb hlt => ⟨hS' b hb, hf.block b hlt (hS b hb)⟩), h6.frame hf.size (fun b hb hlt => ⟨hS' b hb, hf.block b hlt (hS b hb)⟩), h7.fr hf hS hS', h8.fr hf hS hS'⟩
/-- eight cells of block q -/
def CellsN (w : World) (q : Nat) (cs : List Value) : Prop := (∀ j u, cs[j]? = some u → w.cell? ⟨q, j, none⟩ = some u) ∧ (∀ o, w.frozen? ⟨q, o, none⟩ = false) ∧ q < w.heap.size
theorem CellsN.fr {w w' : World} {D : Nat → Prop} {q : Nat} {cs : List Value} (h : CellsN w q cs) (hf : Fr D w w') (hq : ¬ D q) : CellsN w' q cs :=
  ⟨fun j u hu => hf.cell (h.1 j u hu) hq, fun o => (hf.frozen h.2.2 hq).trans (h.2.1 o), Nat.lt_of_lt_of_le h.2.2 hf.size⟩
theorem cells8_of {w : World} {q : Nat} {c0 c1 c2 c3 c4 c5 c6 c7 : Value} (h0 : w.cell? ⟨q, 0, none⟩ = some c0) (h1 : w.cell? ⟨q, 1, none⟩ = some c1) (h2 : w.cell? ⟨q, 2, none⟩ = some c2) (h3 : w.cell? ⟨q, 3, none⟩ = some c3) (h4 : w.cell? ⟨q, 4, none⟩ = some c4) (h5 : w.cell? ⟨q, 5, none⟩ = some c5) (h6 : w.cell? ⟨q, 6, none⟩ = some c6) (h7 : w.cell? ⟨q, 7, none⟩ = some c7) (hf : ∀ o, w.frozen? ⟨q, o, none⟩ = false) : CellsN w q [c0, c1, c2, c3, c4, c5, c6, c7] := ⟨fun j u hu => by
  match j, hu with
  | 0, hu => injection hu with hu; subst hu; exact h0
  | 1, hu => injection hu with hu; subst hu; exact h1
  | 2, hu => injection hu with hu; subst hu; exact h2
  | 3, hu => injection hu with hu; subst hu; exact h3
  | 4, hu => injection hu with hu; subst hu; exact h4
  | 5, hu => injection hu with hu; subst hu; exact h5
  | 6, hu => injection hu with hu; subst hu; exact h6
  | 7, hu => injection hu with hu; subst hu; exact h7, hf, World.block_lt_of_cell? w _ h0⟩
theorem cellsN_new (w : World) (cs : List Value) (t : TypeId) : CellsN (w.alloc (.cells cs.toArray t)) w.heap.size cs := ⟨fun j u hu => by
  have h := cell_newL w cs t _ rfl j u hu
  rw [Addr.add_lit, Nat.zero_add] at h
  exact h, fun o => by simp [go_sem], by simp⟩
theorem numIn_rd {w : World} {B : Nat → Prop} {v : Value} {l : List Int} (h : NumIn w B v l) : ∃ A c, v = .slice A l.length c ∧ l.length ≤ c ∧ c ≤ 9223372036854775807 ∧ (A = none → l.length = 0) ∧ Rd w 1 (tmC (lst l)) A l.length := by
  obtain ⟨A, c, e, h1, h2, h3⟩ := h
  refine ⟨A, c, e, h1, h2, fun hA => ?_, fun h0 => ?_⟩
  · by_cases h0 : 0 < l.length
    · obtain ⟨b, off, e2, _⟩ := h3 h0
      rw [hA] at e2
      cases e2
    · omega
  obtain ⟨b, off, e2, hb, hc⟩ := h3 h0
  refine ⟨b, off, e2, World.block_lt_of_cell? w _ (hc 0 h0), fun k hk j u hu => ?_⟩
  have hj : j < 1 := (List.getElem?_eq_some_iff.1 hu).1
  obtain rfl : j = 0 := by omega
  have : u = .int .i64 (lst l k) := by simpa [tmC] using hu.symm
  subst this
  rw [Nat.mul_one, Nat.add_zero]
  exact hc k hk
theorem LRow.lower {w : World} {base base' n : Nat} {v : Value} {C : Nat → List Value} {arg : Nat → LT} (h : LRow w base v n C arg) (hb : base' ≤ base) : LRow w base' v n C arg :=
  ⟨own_mono h.row hb, h.len, fun i hi => isL_frame (Nat.le_refl _) (fun b hs _ => ⟨⟨by omega, hs.2⟩, rfl⟩) (h.each i hi)⟩
theorem LRow.fr2 {D : Nat → Prop} {w w' : World} {base n : Nat} {v : Value} {C : Nat → List Value} {arg : Nat → LT} (h : LRow w base v n C arg) (hf : Fr D w w') (hr : ∀ k, D k → k < base) : LRow w' base v n C arg := h.fr hf hr
theorem RdV.fr3 {D : Nat → Prop} {w w' : World} {B n : Nat} {A : Option Addr} {arg : Nat → VT} (h : RdV w (fun b => B ≤ b) A n arg) (hf : Fr D w w') (hD : ∀ k, D k → k < B) : RdV w' (fun b => B ≤ b) A n arg := h.frame hf.size (fun b hb hlt => ⟨hb, hf.block b hlt (fun hd => by have := hD b hd; have h9 : B ≤ b := hb; omega)⟩)
theorem RdV.lower {w : World} {B B' n : Nat} {A : Option Addr} {arg : Nat → VT} (h : RdV w (fun b => B ≤ b) A n arg) (hb : B' ≤ B) : RdV w (fun b => B' ≤ b) A n arg := h.frame (Nat.le_refl _) (fun b hs _ => ⟨by have h9 : B ≤ b := hs; show B' ≤ b; omega, rfl⟩)
theorem rd_new {w W W9 : World} {sz n : Nat} {g : Nat → List Value} {A : Option Addr} (h : Rd w sz g A n) (hb : Below w.heap.size w W) (hf : Fr (fun k => k = w.heap.size) W W9) : Rd W9 sz g A n := fun h0 => by
  obtain ⟨b, off, e, hlt, hc⟩ := h h0
  exact ⟨b, off, e, Nat.lt_of_lt_of_le hlt (Nat.le_trans hb.size hf.size), fun k hk j u hu => hf.cell ((hb.cell (p := ⟨b, _, none⟩) hlt).trans (hc k hk j u hu)) (by omega)⟩
def PclPost (p : PclS) (w : World) (v : Value → Value) (e : Ending) (w' : World) : Prop :=
  ∃ A2 c2 A4 c4 C A6 c6 A7 c7, e = .returned (v (.agg #[.int .i64 p.ref, .string p.nm, .slice A2 2 c2, .slice none 0 0, .slice A4 p.box.length c4, .int .i64 p.ticks, .slice A6 p.ws.length c6, .slice A7 p.ls.length c7])) ∧ 2 ≤ c2 ∧ c2 ≤ 9223372036854775807 ∧
    RdV w' (fun b => w.heap.size ≤ b) A2 2 p.st ∧ LRow w' w.heap.size (.slice A4 p.box.length c4) p.box.length C (nthL p.box) ∧ OwnI w' w.heap.size (.slice A6 p.ws.length c6) p.ws ∧ OwnI w' w.heap.size (.slice A7 p.ls.length c7) p.ls ∧ Below w.heap.size w w'
set_option maxRecDepth 100000 in
set_option maxHeartbeats 8000000 in
theorem pcopy_any (p : PclS) (cs : List Value) (S : Nat → Prop) (w : World) (H : PclAt w S p cs) (hb : p.box.length ≤ 60) (hm : ∀ i, i < p.box.length → (nthL p.box i).val.many ≤ 4194304) (hs : ∀ i, i < 2 → (p.st i).many ≤ 4194304) (hw : p.ws.length ≤ 1000000) (hl : p.ls.length ≤ 1000000) :
    Calls Tryz.prog 65 #[.agg cs.toArray] w (PclPost p w id) := by
  obtain ⟨A2, c2, A4, c4, v6, v7, rfl, h1, h2, h3, h4, h5, h6, h7, h8⟩ := H
  obtain ⟨A6, c6, rfl, i1, i2, hn6, R6⟩ := numIn_rd h7
  obtain ⟨A7, c7, rfl, i3, i4, hn7, R7⟩ := numIn_rd h8
  obtain ⟨W, hW⟩ : ∃ W, W = (w.alloc (.cells #[.int .i64 p.ref, .string p.nm, .slice A2 2 c2, .slice none 0 0, .slice A4 p.box.length c4, .int .i64 p.ticks, .slice A6 p.ws.length c6, .slice A7 p.ls.length c7] 82)).alloc (.cells #[.int .i64 0, .string ⟨#[]⟩, .slice none 0 0, .slice none 0 0, .slice none 0 0, .int .i64 0, .slice none 0 0, .slice none 0 0] 82) := ⟨_, rfl⟩
  have HF := Lib.hid (show Below w.heap.size w W by rw [hW]; exact ((Below.refl _ _).alloc (Nat.le_refl _) _).alloc (by simp) _)
  have HZ := Lib.hid (show CellsN W w.heap.size [.int .i64 p.ref, .string p.nm, .slice A2 2 c2, .slice none 0 0, .slice A4 p.box.length c4, .int .i64 p.ticks, .slice A6 p.ws.length c6, .slice A7 p.ls.length c7] by rw [hW]; exact (cellsN_new w _ _).fr (D := fun _ => False) ((Fr.refl _ _).alloc _) (fun h => h))
  have HY := Lib.hid (show CellsN W (w.heap.size + 1) [.int .i64 0, .string ⟨#[]⟩, .slice none 0 0, .slice none 0 0, .slice none 0 0, .int .i64 0, .slice none 0 0, .slice none 0 0] by rw [hW]; simpa using cellsN_new (w.alloc (.cells #[.int .i64 p.ref, .string p.nm, .slice A2 2 c2, .slice none 0 0, .slice A4 p.box.length c4, .int .i64 p.ticks, .slice A6 p.ws.length c6, .slice A7 p.ls.length c7] 82)) [.int .i64 0, .string ⟨#[]⟩, .slice none 0 0, .slice none 0 0, .slice none 0 0, .int .i64 0, .slice none 0 0, .slice none 0 0] 82)
  have hz : w.heap.size + 2 = W.heap.size := by rw [hW]; simp
  have HV := Lib.hid (h5.frame HF.out.size (fun b hb hlt => ⟨hb, HF.out.block b hlt⟩))
  have HL := Lib.hid (h6.frame HF.out.size (fun b hb hlt => ⟨hb, HF.out.block b hlt⟩))
  have H6 := Lib.hid R6
  have H7 := Lib.hid R7
  have HVD := Lib.hid (show RdV W.drew S A2 2 p.st from RdV.frame h5 HF.out.size (fun b hb hlt => ⟨hb, HF.out.block b hlt⟩))
  have HA6 := Lib.hid (show A6 = none → p.ws.length = 0 from hn6)
  have HA7 := Lib.hid (show A7 = none → p.ls.length = 0 from hn7)
  have HWW := Lib.hid hW
  have HM := Lib.hid hm
  have HS := Lib.hid hs
  have z0 := HZ.out.1 0 _ rfl
  have z1 := HZ.out.1 1 _ rfl
  have z2 := HZ.out.1 2 _ rfl
  have z3 := HZ.out.1 3 _ rfl
  have z4 := HZ.out.1 4 _ rfl
  have z5 := HZ.out.1 5 _ rfl
  have z6 := HZ.out.1 6 _ rfl
  have z7 := HZ.out.1 7 _ rfl
  have zf := HZ.out.2.1
  clear h5 h6 h7 h8 R6 R7 hW hm hs hn6 hn7
  go_enter Tryz.func65, Tryz.ntmps65
  go_wp2_with fail
  rw [← HWW.out]
  go_cut [] (fun wx => ∃ A2' c2' A4' c4' C4, CellsN wx w.heap.size [.int .i64 p.ref, .string p.nm, .slice A2' 2 c2', .slice none 0 0, .slice A4' p.box.length c4', .int .i64 p.ticks, .slice A6 p.ws.length c6, .slice A7 p.ls.length c7] ∧ CellsN wx (w.heap.size + 1) [.int .i64 0, .string ⟨#[]⟩, .slice none 0 0, .slice none 0 0, .slice none 0 0, .int .i64 0, .slice none 0 0, .slice none 0 0] ∧ Hid (2 ≤ c2' ∧ c2' ≤ 9223372036854775807 ∧ RdV wx (fun b => W.heap.size ≤ b) A2' 2 p.st) ∧ Hid (LRow wx W.heap.size (.slice A4' p.box.length c4') p.box.length C4 (nthL p.box)) ∧ Hid (Fr (fun k => k = w.heap.size) W wx))
  case first =>
    go_region_with (first
      | (go_at_call 97; refine (saved_any p.nm 2 c2 A2 p.st S _ (by omega) HVD.out HS.out).mono ?_; rintro e w1 ⟨A2', c2', rfl, q1, q2, q3, hb1⟩; have HB1 := Lib.hid (show Fr (fun _ => False) W w1 from Fr.of_below (below_drew' hb1)); have HQ := Lib.hid (And.intro q1 (And.intro q2 q3)); have HZ1 := Lib.hid (HZ.out.fr HB1.out (fun h => h)); have HY1 := Lib.hid (HY.out.fr HB1.out (fun h => h)); have x4 := HZ1.out.1 4 _ rfl; clear q1 q2 q3 hb1)
      | (go_at_call 55; refine (leach_any p.box.length c4 A4 (nthL p.box) S w1 (by omega) (HL.out.frame HB1.out.size (fun b hb hlt => ⟨hb, HB1.out.block b hlt (fun h => h)⟩)) HM.out).mono ?_; rintro e w2 ⟨v2, C2, rfl, hown2, hCl2, hCv2, hb2⟩; obtain ⟨A4', c4', hv2, _, _, _⟩ := own_any hown2; subst hv2; have HLR := Lib.hid (LRow.mk (arg := nthL p.box) hown2 hCl2 hCv2); have HB2 := Lib.hid (show Fr (fun _ => False) w1 w2 from Fr.of_below hb2); have HZ2 := Lib.hid (HZ1.out.fr HB2.out (fun h => h)); have HY2 := Lib.hid (HY1.out.fr HB2.out (fun h => h)); have u0 := HZ2.out.1 0 _ rfl; have u1 := HZ2.out.1 1 _ rfl; have u2 := HZ2.out.1 2 _ rfl; have u3 := HZ2.out.1 3 _ rfl; have u4 := HZ2.out.1 4 _ rfl; have u5 := HZ2.out.1 5 _ rfl; have u6 := HZ2.out.1 6 _ rfl; have u7 := HZ2.out.1 7 _ rfl; have uf := HZ2.out.2.1; clear hown2 hCl2 hCv2 hb2))
    all_goals
      go_wp2_with fail
      go_meet
      refine ⟨A2', c2', A4', c4', C2, cells8_of (by simp [go_sem, u0]) (by simp [go_sem, u1]) (by simp [go_sem, u2]) (by simp [go_sem, u3]) (by simp [go_sem, u4]) (by simp [go_sem, u5]) (by simp [go_sem, u6]) (by simp [go_sem, u7]) (fun o => by simp [go_sem, uf]), HY2.out.fr (D := fun k => k = w.heap.size) ?_ (by omega), Lib.hid ⟨HQ.out.1, HQ.out.2.1, ?_⟩, Lib.hid ?_, Lib.hid ?_⟩
      · iterate 4 (refine Fr.setAt ?_ _)
        exact Fr.refl _ _
      · refine RdV.fr3 (D := fun k => k = w.heap.size) HQ.out.2.2 ?_ (fun k hk => by omega)
        iterate 4 (refine Fr.setAt ?_ _)
        exact HB2.out.weak (fun _ h => h.elim)
      · refine LRow.fr (S := fun k => k = w.heap.size) (HLR.out.lower (base' := W.heap.size) HB1.out.size) ?_ (fun k hk => by omega)
        iterate 4 (refine Fr.setAt ?_ _)
        exact Fr.refl _ _
      · iterate 4 (refine Fr.setAt ?_ _)
        exact (HB1.out.trans' HB2.out).weak (fun _ h => h.elim)
  case rest =>
    obtain ⟨A2', c2', A4', c4', C4, HZc, HYc, HQ, HLR, HFC⟩ := hcut
    generalize wc = wc1 at *
    have HZC := Lib.hid HZc
    have HYC := Lib.hid HYc
    clear HZc HYc z0 z1 z2 z3 z4 z5 z6 z7 zf HZ HY HV HL HVD
    have z0 := HZC.out.1 0 _ rfl
    have z1 := HZC.out.1 1 _ rfl
    have z2 := HZC.out.1 2 _ rfl
    have z3 := HZC.out.1 3 _ rfl
    have z4 := HZC.out.1 4 _ rfl
    have z5 := HZC.out.1 5 _ rfl
    have z6 := HZC.out.1 6 _ rfl
    have z7 := HZC.out.1 7 _ rfl
    have zf := HZC.out.2.1
    have HR6 := Lib.hid (fun W9 (hf : Fr (fun k => k = w.heap.size) W W9) => show Rd W9 1 (tmC (lst p.ws)) A6 p.ws.length from rd_new H6.out HF.out hf)
    have HR7 := Lib.hid (fun W9 (hf : Fr (fun k => k = w.heap.size) W W9) => show Rd W9 1 (tmC (lst p.ls)) A7 p.ls.length from rd_new H7.out HF.out hf)
    go_wp2_with fail
    go_cut [] (fun wx => ∃ A6' c6' A7' c7', CellsN wx w.heap.size [.int .i64 p.ref, .string p.nm, .slice A2' 2 c2', .slice none 0 0, .slice A4' p.box.length c4', .int .i64 p.ticks, .slice A6' p.ws.length c6', .slice A7' p.ls.length c7'] ∧ CellsN wx (w.heap.size + 1) [.int .i64 0, .string ⟨#[]⟩, .slice none 0 0, .slice none 0 0, .slice none 0 0, .int .i64 0, .slice none 0 0, .slice none 0 0] ∧ Hid (OwnI wx W.heap.size (.slice A6' p.ws.length c6') p.ws) ∧ Hid (OwnI wx W.heap.size (.slice A7' p.ls.length c7') p.ls) ∧ Hid (Fr (fun k => k = w.heap.size) wc1 wx))
    case first =>
      go_region_with (first
        | (go_at_call_of 98 (Value.slice A6 p.ws.length c6); refine (cloneInt A6 p.ws.length c6 (tmC (lst p.ws)) _ (HR6.out _ HFC.out.drew) (tmC_len _) (tmC_one _) HA6.out (by omega)).mono ?_; rintro e w1 ⟨v1, rfl, hown1, hb1⟩; rw [flatC_lst] at hown1; have HO1 := Lib.hid (show OwnI w1 wc1.heap.size v1 p.ws from hown1); obtain ⟨A6', c6', hv1, _, _, _⟩ := own_any hown1; subst hv1; have HB1 := Lib.hid (show Fr (fun _ => False) wc1 w1 from Fr.of_below (below_drew' hb1)); have HZ1 := Lib.hid (HZC.out.fr HB1.out (fun h => h)); have HY1 := Lib.hid (HYC.out.fr HB1.out (fun h => h)); have x7 := HZ1.out.1 7 _ rfl; clear hown1 hb1)
        | (go_at_call_of 98 (Value.slice A7 p.ls.length c7); refine (cloneInt A7 p.ls.length c7 (tmC (lst p.ls)) _ (HR7.out _ (HFC.out.trans' (HB1.out.weak (fun _ h => h.elim)))) (tmC_len _) (tmC_one _) HA7.out (by omega)).mono ?_; rintro e w2 ⟨v2, rfl, hown2, hb2⟩; rw [flatC_lst] at hown2; have HO2 := Lib.hid (show OwnI w2 w1.heap.size v2 p.ls from hown2); obtain ⟨A7', c7', hv2, _, _, _⟩ := own_any hown2; subst hv2; have HB2 := Lib.hid (show Fr (fun _ => False) w1 w2 from Fr.of_below hb2); have HZ2 := Lib.hid (HZ1.out.fr HB2.out (fun h => h)); have HY2 := Lib.hid (HY1.out.fr HB2.out (fun h => h)); have u0 := HZ2.out.1 0 _ rfl; have u1 := HZ2.out.1 1 _ rfl; have u2 := HZ2.out.1 2 _ rfl; have u3 := HZ2.out.1 3 _ rfl; have u4 := HZ2.out.1 4 _ rfl; have u5 := HZ2.out.1 5 _ rfl; have u6 := HZ2.out.1 6 _ rfl; have u7 := HZ2.out.1 7 _ rfl; have uf := HZ2.out.2.1; clear hown2 hb2))
      all_goals
        go_wp2_with fail
        go_meet
        refine ⟨A6', c6', A7', c7', cells8_of (by simp [go_sem, u0]) (by simp [go_sem, u1]) (by simp [go_sem, u2]) (by simp [go_sem, u3]) (by simp [go_sem, u4]) (by simp [go_sem, u5]) (by simp [go_sem, u6]) (by simp [go_sem, u7]) (fun o => by simp [go_sem, uf]), HY2.out.fr (D := fun k => k = w.heap.size) ?_ (by omega), Lib.hid ?_, Lib.hid ?_, Lib.hid ?_⟩
        · iterate 2 (refine Fr.setAt ?_ _)
          exact Fr.refl _ _
        · refine OwnI.fr (S := fun k => k = w.heap.size) (OwnI.mono (base' := W.heap.size) HO1.out (by have := HFC.out.size; omega)) ?_ (fun k hk hq => by have := (HO1.out.blk k hk).1; have := HFC.out.size; omega)
          iterate 2 (refine Fr.setAt ?_ _)
          exact HB2.out.weak (fun _ h => h.elim)
        · refine OwnI.fr (S := fun k => k = w.heap.size) (OwnI.mono (base' := W.heap.size) HO2.out (by have := HFC.out.size; have := HB1.out.size; omega)) ?_ (fun k hk hq => by have := (HO2.out.blk k hk).1; have := HFC.out.size; have := HB1.out.size; omega)
          iterate 2 (refine Fr.setAt ?_ _)
          exact Fr.refl _ _
        · iterate 2 (refine Fr.setAt ?_ _)
          exact (HB1.out.trans' HB2.out).weak (fun _ h => h.elim)
    case rest =>
      obtain ⟨A6', c6', A7', c7', HZd, HYd, HO6, HO7, HFD⟩ := hcut
      have HZD := Lib.hid HZd
      have HYD := Lib.hid HYd
      clear HZd HYd z0 z1 z2 z3 z4 z5 z6 z7 zf HZC HYC HR6 HR7
      have z0 := HZD.out.1 0 _ rfl
      have z1 := HZD.out.1 1 _ rfl
      have z2 := HZD.out.1 2 _ rfl
      have z3 := HZD.out.1 3 _ rfl
      have z4 := HZD.out.1 4 _ rfl
      have z5 := HZD.out.1 5 _ rfl
      have z6 := HZD.out.1 6 _ rfl
      have z7 := HZD.out.1 7 _ rfl
      have y0 := HYD.out.1 0 _ rfl
      have y1 := HYD.out.1 1 _ rfl
      have y2 := HYD.out.1 2 _ rfl
      have y3 := HYD.out.1 3 _ rfl
      have y4 := HYD.out.1 4 _ rfl
      have y5 := HYD.out.1 5 _ rfl
      have y6 := HYD.out.1 6 _ rfl
      have y7 := HYD.out.1 7 _ rfl
      have yf := HYD.out.2.1
      go_wp2_with fail
      refine bodyPost_ret (v := .agg #[.int .i64 p.ref, .string p.nm, .slice A2' 2 c2', .slice none 0 0, .slice A4' p.box.length c4', .int .i64 p.ticks, .slice A6' p.ws.length c6', .slice A7' p.ls.length c7']) (by simp [results, Tryz.results65, go_sem, y0, y1, y2, y3, y4, y5, y6, y7]) rfl ⟨A2', c2', A4', c4', C4, A6', c6', A7', c7', rfl, HQ.out.1, HQ.out.2.1, ?_, ?_, ?_, ?_, ?_⟩
      · refine RdV.lower (B := W.heap.size) (RdV.fr3 (D := fun k => k = w.heap.size ∨ k = w.heap.size + 1) HQ.out.2.2 (Fr.trans' (w1 := wc) (HFD.out.weak (fun _ h => .inl h)) (Fr.weak (S := fun k => k = w.heap.size + 1) ?_ (fun _ h => .inr h))) (fun k hk => by omega)) (by omega)
        iterate 8 (refine Fr.setAt ?_ _)
        exact Fr.refl _ _
      · refine LRow.lower (base := W.heap.size) (LRow.fr (S := fun k => k = w.heap.size ∨ k = w.heap.size + 1) HLR.out (Fr.trans' (w1 := wc) (HFD.out.weak (fun _ h => .inl h)) (Fr.weak (S := fun k => k = w.heap.size + 1) ?_ (fun _ h => .inr h))) (fun k hk => by omega)) (by omega)
        iterate 8 (refine Fr.setAt ?_ _)
        exact Fr.refl _ _
      · refine OwnI.fr (S := fun k => k = w.heap.size + 1) (OwnI.mono (base' := w.heap.size) HO6.out (by omega)) ?_ (fun k hk hq => by have := (HO6.out.blk k hk).1; omega)
        iterate 8 (refine Fr.setAt ?_ _)
        exact Fr.refl _ _
      · refine OwnI.fr (S := fun k => k = w.heap.size + 1) (OwnI.mono (base' := w.heap.size) HO7.out (by omega)) ?_ (fun k hk hq => by have := (HO7.out.blk k hk).1; omega)
        iterate 8 (refine Fr.setAt ?_ _)
        exact Fr.refl _ _
      · iterate 8 (refine below_set ?_ (by omega))
        have h1 : Fr (fun k => w.heap.size ≤ k) w W := Fr.of_below HF.out
        exact (h1.trans' ((HFC.out.trans' HFD.out).weak (fun k hk => by omega))).below (fun k hk => hk) (Nat.le_refl _)
end Go.Proofs.YtjjfglbcikaicaaGreat
namespace Go.Proofs.YtjjfglbcikaicaaGreat
open Go.RowKit
set_option linter.unusedVariables false
set_option linter.unusedSimpArgs false
/-- where Make's loop stands: k values were read -/
structure MkR (w : World) (A : Option Addr) (n c : Nat) (pos kid me : Int) (k : Nat) (wr : World) : Prop where
  cells : CellsN wr w.heap.size (runC A n c (if 0 < k then pos else 0) (if 1 < k then kid else 0) me)
  fr : Fr (fun _ => False) w wr
theorem CellsN.set {w : World} {q i : Nat} {cs : List Value} (h : CellsN w q cs) (u : Value) : CellsN (w.setCell ⟨q, i, none⟩ u) q (cs.set i u) := by
  refine ⟨fun j v hv => ?_, set_fz h.2.1, by simpa using h.2.2⟩
  by_cases e : i = j
  · subst e
    have hl : i < cs.length := by
      have := hv
      rw [List.getElem?_eq_some_iff] at this
      have h2 := this.1
      rw [List.length_set] at h2
      exact h2
    rw [List.getElem?_set_self hl] at hv
    injection hv with hv
    subst hv
    exact set_this (h.1 i _ (List.getElem?_eq_getElem hl))
  · rw [List.getElem?_set_ne e] at hv
    exact set_other (h.1 j v hv) (fun e2 => e e2.symm)
theorem MkR.up0 {w wr : World} {A : Option Addr} {n c : Nat} {pos kid me : Int} (h : MkR w A n c pos kid me 0 wr) (o : Obj) : MkR w A n c pos kid me 1 ((wr.setCell ⟨w.heap.size, 1, none⟩ (.int .i64 pos)).alloc o) :=
  ⟨(h.cells.set (.int .i64 pos)).fr (D := fun _ => False) ((Fr.refl _ _).alloc _) (fun h => h), h.fr.trans ((Fr.setAt (Fr.refl _ _) _).alloc _) (fun k hk => .inr (by omega))⟩
theorem MkR.up1 {w wr : World} {A : Option Addr} {n c : Nat} {pos kid me : Int} (h : MkR w A n c pos kid me 1 wr) (o : Obj) : MkR w A n c pos kid me 2 ((wr.setCell ⟨w.heap.size, 2, none⟩ (.int .i64 kid)).alloc o) :=
  ⟨(h.cells.set (.int .i64 kid)).fr (D := fun _ => False) ((Fr.refl _ _).alloc _) (fun h => h), h.fr.trans ((Fr.setAt (Fr.refl _ _) _).alloc _) (fun k hk => .inr (by omega))⟩
set_option maxRecDepth 100000 in
set_option maxHeartbeats 8000000 in
theorem make_two (scr : List (List Stp)) (base c : Nat) (A : Option Addr) (b : UInt8) (self : Int) (w : World) (h : ScrsAt w base A c scr) (hb : base ≤ w.heap.size) {l : List Stp} (hM : makeN scr ⟨#[b]⟩ = some l) (A2 : Option Addr) (c2 : Nat) (S : Nat → Prop) (pos kid : Int) (hp : 0 ≤ pos) (hk : 0 ≤ kid) (hR : RdV w S A2 2 (fun i => if i = 0 then vLeaf 2 pos else vLeaf 6 kid)) :
    Calls Tryz.prog 155 #[.slice A scr.length c, .string ⟨#[b]⟩, .slice A2 2 c2, .int .i64 self] w fun e w' => l ∈ scr ∧ ∃ A' c' vo, ScrAt w base A' c' l vo ∧ e = .returned (.tuple #[.iface 236 (.pointer (some ⟨w.heap.size, 0, none⟩)), .int .i64 0]) ∧ MkR w A' l.length c' pos kid self 2 w' := by
  have hM1 := makeN_one scr b
  rw [hM] at hM1
  obtain ⟨h1, h2, h3, h4, h5⟩ := h
  have hb256 : b.toNat < 256 := b.toNat_lt
  obtain ⟨n, hn⟩ : ∃ n : Nat, b.toNat = n := ⟨_, rfl⟩
  have hbn : ((⟨#[b]⟩ : ByteArray)[0]'(show 0 < 1 by decide)).toNat = n := hn
  rw [hn] at hM1 hb256
  have hrng : ¬ (n < 48 ∨ 57 < n) := fun hh => by rw [if_pos hh] at hM1; cases hM1
  rw [if_neg hrng] at hM1
  have g1 : 48 ≤ n ∧ n ≤ 57 := by omega
  obtain ⟨m, rfl⟩ : ∃ m, n = m + 48 := ⟨n - 48, by omega⟩
  rw [Nat.add_sub_cancel] at hM1
  have hml : m < scr.length := by
    have := hM1.symm
    rw [List.getElem?_eq_some_iff] at this
    exact this.1
  have hmod : (m : Int) % 256 = m := by omega
  have e1 : decide (((m : Int) + 48) < 48) = false := decide_eq_false (by omega)
  have e2 : decide ((scr.length : Int) ≤ (m : Int)) = false := decide_eq_false (by omega)
  have e3 : decide (57 < ((m : Int) + 48)) = false := decide_eq_false (by omega)
  obtain ⟨bs, off, A', c', vo, rfl, hbs, hcell, hscr⟩ := h5 m hml
  have hget : scr.getD m [] = l := by rw [List.getD_eq_getElem?_getD, ← hM1]; rfl
  rw [hget] at hcell hscr
  have HMEM := Lib.hid (show l ∈ scr from List.mem_of_getElem? hM1.symm)
  have HS := Lib.hid hscr
  have hlt : (m : Int) < (scr.length : Int) := by omega
  have h0m : (0 : Int) ≤ (m : Int) := by omega
  obtain ⟨sb, so, rfl, hsb, -, C, hC⟩ := hR (by omega)
  obtain ⟨⟨B0, d0, hC0, -⟩, hc0⟩ := hC 0 (by omega)
  obtain ⟨⟨B1, d1, hC1, -⟩, hc1⟩ := hC 1 (by omega)
  rw [hC0] at hc0
  rw [hC1] at hc1
  have k0 : w.cell? ⟨sb, so, none⟩ = some (.int .i64 2) := by simpa using hc0 0 _ rfl
  have k1 : w.cell? ⟨sb, so + 1, none⟩ = some (.int .i64 pos) := by simpa using hc0 1 _ rfl
  have k2 : w.cell? ⟨sb, so + 2, none⟩ = some (.string ⟨#[]⟩) := by simpa using hc0 2 _ rfl
  have k3 : w.cell? ⟨sb, so + 3, none⟩ = some (.slice B0 0 d0) := by simpa using hc0 3 _ rfl
  have j0 : w.cell? ⟨sb, so + 4, none⟩ = some (.int .i64 6) := by simpa [Nat.add_assoc] using hc1 0 _ rfl
  have j1 : w.cell? ⟨sb, so + 4 + 1, none⟩ = some (.int .i64 kid) := by simpa [Nat.add_assoc] using hc1 1 _ rfl
  have j2 : w.cell? ⟨sb, so + 4 + 2, none⟩ = some (.string ⟨#[]⟩) := by simpa [Nat.add_assoc] using hc1 2 _ rfl
  have j3 : w.cell? ⟨sb, so + 4 + 3, none⟩ = some (.slice B1 0 d1) := by simpa [Nat.add_assoc] using hc1 3 _ rfl
  have HK := Lib.hid (And.intro k0 (And.intro k1 (And.intro k2 k3)))
  have HJ := Lib.hid (And.intro j0 (And.intro j1 (And.intro j2 j3)))
  have HHP := Lib.hid hp
  have HHK := Lib.hid hk
  have p0 : decide (pos < 0) = false := decide_eq_false (by omega)
  have p1 : decide (kid < 0) = false := decide_eq_false (by omega)
  have HW0 := Lib.hid (show MkR w A' l.length c' pos kid self 0 (w.alloc (.cells (runC A' l.length c' 0 0 self).toArray 238)) from ⟨cellsN_new w _ _, (Fr.refl _ _).alloc _⟩)
  clear h4 h5 hn hget hscr hM hM1 hR hC hC0 hC1 hc0 hc1 k0 k1 k2 k3 j0 j1 j2 j3 hp hk hrng g1 hml h1 h2 h3
  go_enter Tryz.func155, Tryz.ntmps155
  go_wp2_with fail
  go_loopw [11, 12, 54] (fun _ _ i wr => ∃ k : Nat, k ≤ 2 ∧ i = .int .i64 (k : Int) ∧ MkR w A' l.length c' pos kid self k wr) (fun _ _ i _ => 2 - (intOf i).toNat)
  case atStart => exact ⟨0, by omega, rfl, HW0.out⟩
  case round =>
    obtain ⟨k, hk, rfl, hR⟩ := hrel
    have HR := Lib.hid hR
    clear hR
    have hzr := HR.out.fr.size
    match k, hk with
    | 0, _ =>
      have k0 := HR.out.fr.cell HK.out.1 (fun h => h)
      have k1 := HR.out.fr.cell HK.out.2.1 (fun h => h)
      have k2 := HR.out.fr.cell HK.out.2.2.1 (fun h => h)
      have k3 := HR.out.fr.cell HK.out.2.2.2 (fun h => h)
      have q1 := HR.out.cells.1 1 _ rfl
      have qf := HR.out.cells.2.1
      have ql := HR.out.cells.2.2
      go_wp2_with fail
      exact ⟨⟨1, by omega, rfl, HR.out.up0 _⟩, by decide⟩
    | 1, _ =>
      have k0 := HR.out.fr.cell HJ.out.1 (fun h => h)
      have k1 := HR.out.fr.cell HJ.out.2.1 (fun h => h)
      have k2 := HR.out.fr.cell HJ.out.2.2.1 (fun h => h)
      have k3 := HR.out.fr.cell HJ.out.2.2.2 (fun h => h)
      have q1 := HR.out.cells.1 2 _ rfl
      have qf := HR.out.cells.2.1
      have ql := HR.out.cells.2.2
      go_wp2_with fail
      exact ⟨⟨2, by omega, rfl, HR.out.up1 _⟩, by decide⟩
    | 2, _ =>
      go_wp2_with fail
      exact bodyPost_ret (v := .tuple #[.iface 236 (.pointer (some ⟨w.heap.size, 0, none⟩)), .int .i64 0]) (by simp [results, Tryz.results155, go_sem]) rfl ⟨HMEM.out, A', c', vo, HS.out, rfl, HR.out⟩
def Dnew2Post (X : Nat → Prop) (scr : List (List Stp)) (base T : Nat) (b : UInt8) (l : List Stp) (pos : Nat) (kid self : Int) (w : World) (e : Ending) (w' : World) : Prop :=
  l ∈ scr ∧ ∃ db, e = .returned (.tuple #[.pointer (some ⟨db, 0, none⟩), .int .i64 0]) ∧ w.heap.size < db ∧ Fr (fun _ => False) w w' ∧ DiaAt w' X base T db w.heap.size none (newD ⟨#[b]⟩ l pos kid self)
set_option maxRecDepth 100000 in
set_option maxHeartbeats 8000000 in
theorem dnew_two (X : Nat → Prop) (scr : List (List Stp)) (base T c : Nat) (A : Option Addr) (b : UInt8) (self : Int) (w : World) (h : ScrsAt w base A c scr) (hb : base ≤ w.heap.size) {l : List Stp} (hM : makeN scr ⟨#[b]⟩ = some l) (A2 : Option Addr) (c2 : Nat) (S : Nat → Prop) (pos : Nat) (kid : Int) (hk : 0 ≤ kid) (hR : RdV w S A2 2 (fun i => if i = 0 then vLeaf 2 pos else vLeaf 6 kid)) :
    Calls Tryz.prog 44 #[.iface 25 (.slice A scr.length c), .string ⟨#[b]⟩, .slice A2 2 c2, .int .i64 self] w (Dnew2Post X scr base T b l pos kid self w) := by
  have HM := Lib.hid (make_two scr base c A b self w h hb hM A2 c2 S pos kid (by omega) hk hR)
  have hm := meth_make (.slice A scr.length c)
  have HRR := Lib.hid hR
  have HB := Lib.hid hb
  clear h hR hM
  go_enter Tryz.func44, Tryz.ntmps44
  go_wp2_with fail
  refine HM.out.mono ?_
  rintro e w1 ⟨hl, A', c', vo, hs, rfl, hmk⟩
  have HL := Lib.hid hl
  have HS := Lib.hid hs
  have HK := Lib.hid hmk
  have HV := Lib.hid (values_any 2 c2 A2 (fun i => if i = 0 then vLeaf 2 pos else vLeaf 6 kid) S w1 (by omega) (RdV.frame HRR.out hmk.fr.size (fun b hb hlt => ⟨hb, hmk.fr.block b hlt (fun h => h)⟩)) (fun i hi => by split <;> simp [vLeaf, VT.many, sumTo]))
  clear hl hs hmk HM
  go_wp2_with fail
  refine HV.out.mono ?_
  rintro e w2 ⟨v2, C2, rfl, ho2, hl2, hv2, hb2⟩
  obtain ⟨A3, c3, rfl, q1, q2, q3⟩ := each_rdv ho2 hl2 hv2
  have HF2 := Lib.hid (Fr.of_below (S := fun _ => False) hb2)
  clear ho2 hl2 hv2 hb2 HV q1 q2 q3
  go_wp2_with fail
  have hfE : Fr (fun _ => False) w2 (w2.alloc (.cells #[.iface 236 (.pointer (some ⟨w.heap.size, 0, none⟩)), .string ⟨#[b]⟩, .slice A3 2 c3, .slice none 0 0, .int .i64 0, .int .i64 0, .string ⟨#[]⟩, .int .i64 0, .int .i64 0, .string ⟨#[]⟩, .slice none 0 0, .slice none 0 0] 154)) := (Fr.refl _ w2).alloc _
  have hf1 := HF2.out.trans' hfE
  have hd := cellsN_new w2 [.iface 236 (.pointer (some ⟨w.heap.size, 0, none⟩)), .string ⟨#[b]⟩, .slice A3 2 c3, .slice none 0 0, .int .i64 0, .int .i64 0, .string ⟨#[]⟩, .int .i64 0, .int .i64 0, .string ⟨#[]⟩, .slice none 0 0, .slice none 0 0] 154
  have hc := HK.out.cells.fr hf1 (fun h => h)
  have hsz : w.heap.size < w2.heap.size := Nat.lt_of_lt_of_le HK.out.cells.2.2 HF2.out.size
  refine bodyPost_ret (v := .tuple #[.pointer (some ⟨w2.heap.size, 0, none⟩), .int .i64 0]) (by simp [results, Tryz.results44, go_sem]) rfl ⟨HL.out, w2.heap.size, rfl, hsz, HK.out.fr.trans' hf1, ?_⟩
  exact {
    run := ⟨A', c', vo, HS.out.fr (HK.out.fr.trans' hf1) (fun _ h => h.elim), ⟨hc.1 0 _ rfl, hc.1 1 _ rfl, hc.1 2 _ rfl, hc.1 3 _ rfl, hc.1 4 _ rfl, hc.1 5 _ rfl, hc.1 6 _ rfl, hc.1 7 _ rfl, hc.1 8 _ rfl, hc.1 9 _ rfl, hc.1 10 _ rfl, hc.1 11 _ rfl, hc.1 12 _ rfl, hc.1 13 _ rfl, hc.1 14 _ rfl, hc.2.1⟩⟩
    c0 := hd.1 0 _ rfl
    c1 := hd.1 1 _ rfl
    c2 := ⟨A3, 2, c3, hd.1 2 _ rfl, fun e => absurd e (show ¬ (0 : Int) = 7 by decide)⟩
    c3 := ⟨none, 0, 0, [], hd.1 3 _ rfl, World.ownsRow_nil _ _ _ _, Nat.zero_le _, rfl, fun e => absurd e (show ¬ (0 : Int) = 7 by decide)⟩
    c4 := hd.1 4 _ rfl
    c5 := hd.1 5 _ rfl
    c6 := hd.1 6 _ rfl
    c7 := hd.1 7 _ rfl
    c8 := hd.1 8 _ rfl
    c9 := hd.1 9 _ rfl
    c10 := hd.1 10 _ rfl
    c11 := hd.1 11 _ rfl
    fz := hd.2.1
    nr := by omega
    ni := fun k hk => by cases hk
    lb := ⟨by have := HB.out; omega, HB.out⟩
    wt := fun e => absurd e (show ¬ (0 : Int) = 7 by decide)
    pl := ⟨(fun e => by cases e), (fun e => by cases e)⟩ }
end Go.Proofs.YtjjfglbcikaicaaGreat
namespace Go.Proofs.YtjjfglbcikaicaaGreat
open Go.RowKit
set_option linter.unusedVariables false
set_option linter.unusedSimpArgs false
def lnS (l : List Stp) (pos : Nat) : Int := max (-1) (min (nthS l pos).b 9)
/-- the diary of one that waits at a place of its script -/
def backD (nm : ByteArray) (l : List Stp) (pos : Nat) (kid self : Int) : DiaS := ⟨nm, l, ⟨pos, kid, self, true, false, false, 7, lnS l pos, ⟨#[]⟩⟩, 7, lnS l pos⟩
theorem runD_back {nm : ByteArray} {l : List Stp} {pos : Nat} {kid self : Int} (h : pos < l.length) (hk : (nthS l pos).kind = 6) : runD 1 (newD nm l pos kid self) = (backD nm l pos kid self, outO 7 (lnS l pos)) := by
  have e : stepR l ⟨pos, kid, self, false, false, false, 0, 0, ⟨#[]⟩⟩ = (⟨pos, kid, self, true, false, false, 7, lnS l pos, ⟨#[]⟩⟩, outO 7 (lnS l pos)) := by
    unfold stepR
    rw [if_neg (by show ¬ l.length ≤ pos; omega)]
    simp only [hk]
    rfl
  unfold runD
  have e2 : runR l 1 ⟨pos, kid, self, false, false, false, 0, 0, ⟨#[]⟩⟩ = (⟨pos, kid, self, true, false, false, 7, lnS l pos, ⟨#[]⟩⟩, outO 7 (lnS l pos)) := by
    unfold runR
    simp only [e]
    rfl
  simp only [newD, e2]
  rfl
theorem DiaAt.reX {w : World} {X X' : Nat → Prop} {base T b rb : Nat} {ib : Option Nat} {d : DiaS} (h : DiaAt w X base T b rb ib d) (hd : d.dk ≠ 7) : DiaAt w X' base T b rb ib d := by
  obtain ⟨A, n, c, q, _⟩ := h.c2
  exact { h with c2 := ⟨A, n, c, q, fun e => absurd e hd⟩ }
def BackPost (X : Nat → Prop) (scr : List (List Stp)) (base T : Nat) (d : DiaS) (w : World) (e : Ending) (w' : World) : Prop :=
  d.l ∈ scr ∧ ∃ db rb, e = .returned (.tuple #[.pointer (some ⟨db, 0, none⟩), .int .i64 0]) ∧ w.heap.size ≤ rb ∧ rb < db ∧ Fr (fun _ => False) w w' ∧ DiaAt w' (fun k => X k ∨ k = db ∨ k = rb) base T db rb none d
set_option maxRecDepth 100000 in
set_option maxHeartbeats 8000000 in
theorem back_any (X : Nat → Prop) (scr : List (List Stp)) (base T c : Nat) (A : Option Addr) (b : UInt8) (self : Int) (w : World) (h : ScrsAt w base A c scr) (hb : base ≤ w.heap.size) (hX : ∀ k, X k → k < w.heap.size) {l : List Stp} (hM : makeN scr ⟨#[b]⟩ = some l) (A2 : Option Addr) (c2 : Nat) (S : Nat → Prop) (pos : Nat) (kid : Int) (hk : 0 ≤ kid) (hR : RdV w S A2 2 (fun i => if i = 0 then vLeaf 2 pos else vLeaf 6 kid)) (hpos : pos < l.length) (hk6 : (nthS l pos).kind = 6) :
    Calls Tryz.prog 72 #[.iface 25 (.slice A scr.length c), .agg #[.string ⟨#[b]⟩, .slice A2 2 c2, .slice none 0 0], .int .i64 self] w (BackPost X scr base T (backD ⟨#[b]⟩ l pos kid self) w) := by
  obtain ⟨W, hW⟩ : ∃ W, W = w.alloc (.cells #[.string ⟨#[b]⟩, .slice A2 2 c2, .slice none 0 0] 80) := ⟨_, rfl⟩
  have hfW : Fr (fun _ => False) w W := by rw [hW]; exact (Fr.refl _ _).alloc _
  have HZ := Lib.hid (show CellsN W w.heap.size [.string ⟨#[b]⟩, .slice A2 2 c2, .slice none 0 0] by rw [hW]; exact cellsN_new w _ _)
  have HDN := Lib.hid (dnew_two X scr base T c A b self W (h.fr hfW (fun _ h => h.elim)) (Nat.le_trans hb hfW.size) hM A2 c2 S pos kid hk (hR.frame hfW.size (fun b hb hlt => ⟨hb, hfW.block b hlt (fun h => h)⟩)))
  have HF := Lib.hid hfW
  have HWW := Lib.hid hW
  have HX := Lib.hid hX
  have HRB := Lib.hid (runD_back (nm := ⟨#[b]⟩) (kid := kid) (self := self) hpos hk6)
  have z0 := HZ.out.1 0 _ rfl
  have z1 := HZ.out.1 1 _ rfl
  have z2 := HZ.out.1 2 _ rfl
  clear h hb hX hM hk hR hpos hk6 hW hfW
  go_enter Tryz.func72, Tryz.ntmps72
  go_wp2_with fail
  rw [← HWW.out]
  refine HDN.out.mono ?_
  rintro e w1 ⟨hl, db, rfl, hdb, hf1, hd1⟩
  have HL := Lib.hid hl
  have HF1 := Lib.hid (HF.out.trans' hf1)
  have z2 := hf1.cell z2 (fun h => h)
  have HSZ := Lib.hid (show w.heap.size < W.heap.size ∧ W.heap.size < db from ⟨HZ.out.2.2, hdb⟩)
  have hdr := drun_any (fun k => X k ∨ k = db ∨ k = W.heap.size) base T db W.heap.size 1 none _ w1 (hd1.reX (by show (0 : Int) ≠ 7; decide)) (fun k hk => by
    have := hf1.size
    have := HZ.out.2.2
    rcases hk with hk | rfl | rfl
    · have := HX.out k hk; omega
    · exact hd1.lt.1
    · exact hd1.lt.2.1) ⟨.inr (.inl rfl), .inr (.inr rfl)⟩ (by omega)
  rw [HRB.out] at hdr
  have HDR := Lib.hid hdr
  clear hl hf1 hd1 HDN hdr hdb
  go_wp2_with fail
  go_loopw [10, 11] (fun v10 v11 wr => v10 = .slice none 0 0 ∧ v11 = .int .i64 0 ∧ wr = w1) (fun _ _ _ => 0)
  case atStart => exact ⟨rfl, rfl, rfl⟩
  case round =>
    obtain ⟨rfl, rfl, rfl⟩ := hrel
    go_wp2_with fail
    refine HDR.out.mono ?_
    rintro e w2 ⟨rfl, ib', hib, hd2, hf2, -⟩
    have hib' : ib' = none := by rcases hib with h | h <;> exact h
    subst hib'
    have HD2 := Lib.hid hd2
    have HF2 := Lib.hid hf2
    clear hd2 hf2 hib HDR
    simp only [outC, outO]
    go_wp2_with fail
    refine bodyPost_ret (v := .tuple #[.pointer (some ⟨db, 0, none⟩), .int .i64 0]) (by simp [results, Tryz.results72, go_sem]) rfl ⟨HL.out, db, W.heap.size, rfl, Nat.le_of_lt HSZ.out.1, HSZ.out.2, ?_, ?_⟩
    · refine (HF1.out.trans HF2.out (fun k hk => ?_)).alloc _
      have := HSZ.out
      rcases hk with rfl | rfl | hk
      · exact .inr (by omega)
      · exact .inr (by omega)
      · cases hk
    · exact HD2.out.fr (S := fun _ => False) ((Fr.refl _ _).alloc _) (fun _ h => h.elim) (fun k hk => .inl hk) (fun _ h => h.elim) (Nat.le_refl _) (fun h => h) (fun h => h) (fun _ h => by cases h)
end Go.Proofs.YtjjfglbcikaicaaGreat
namespace Go.Proofs.YtjjfglbcikaicaaGreat
open Go.RowKit Go.Maps
set_option linter.unusedVariables false
set_option linter.unusedSimpArgs false
theorem row1_cl : Li.EqRow 96 := fun a A B n m c d ref b w hb hc => by
  go_enter Tryz.func96, Tryz.ntmps96
  go_wp2_with fail
  go_ret
  exact ⟨rfl, (Below.refl _ _).alloc (Nat.le_refl _) _⟩
theorem row1_enters : Enters Tryz.prog 96 := fun _ _ => by kernel_rfl
/-- the row of one; an empty one, if there is none -/
def rowD (rows : List Li.LR) (ref : Int) : Li.LR := (rowL rows ref).getD dRow
theorem numIn_sl {w : World} {v : Value} {l : List Int} (h : Li.Sl w v l) : NumIn w (fun b => b < w.heap.size) v l := by
  obtain ⟨A, c, e, h1, h2, h3, h4⟩ := h
  refine ⟨A, c, e, h1, h2, fun h0 => ?_⟩
  obtain ⟨b, off, e2, hb, hc⟩ := h4 h0
  refine ⟨b, off, e2, hb, fun j hj => ?_⟩
  have := hc j hj 0 _ rfl
  rw [Nat.mul_one, Nat.add_zero] at this
  exact this
def RowPost (B : Nat → Prop) (r : Li.LR) (w : World) (e : Ending) (w' : World) : Prop := ∃ v1 v2, e = .returned (.agg #[.int .i64 r.ref, v1, v2]) ∧ NumIn w' B v1 r.ws ∧ NumIn w' B v2 r.ls ∧ Below w.heap.size w w'
theorem numIn_nil' (w : World) (B : Nat → Prop) : NumIn w B (.slice none 0 0) [] := ⟨none, 0, rfl, Nat.le_refl _, by omega, fun h => by simp at h⟩
set_option maxRecDepth 100000 in
set_option maxHeartbeats 4000000 in
theorem row_any {w0 w : World} {X M : Nat → Prop} {base T p : Nat} {P : Int → Nat} {N : NdS} (h : NodeAt w0 X M base T p P N) (hf0 : Fr (fun _ => False) w0 w) (ref : Int) :
    Calls Tryz.prog 64 #[.pointer (some ⟨p, 0, none⟩), .int .i64 ref] w (RowPost (fun b => b < w0.heap.size) (rowD N.rows ref) w) := by
  have hok := h.ok.rows.ok
  obtain ⟨_, _, _, mb, hb, MA, ob, sb, h4, _⟩ := h
  obtain ⟨v4, c40, hr⟩ := h4.c4
  have c4 := hf0.cell c40 (fun h => h)
  have hplt := World.block_lt_of_cell? w _ c4
  obtain ⟨A, c, vw, vl, rfl, k1, k2, hR0⟩ := hr.form
  have HR0 := Lib.hid hR0
  have hR := hR0.below (hf0.below (fun _ h => h.elim) (Nat.le_refl _))
  have HF0 := Lib.hid hf0
  have HR := Lib.hid hR
  have h100 := hok.1
  obtain ⟨W, hW⟩ : ∃ W, W = (w.alloc (.cells #[.int .i64 ref] 3)).alloc (.cells #[.int .i64 0, .slice none 0 0, .slice none 0 0] 132) := ⟨_, rfl⟩
  have hbz : Below w.heap.size w W := by rw [hW]; exact ((Below.refl _ _).alloc (Nat.le_refl _) _).alloc (by simp) _
  have HB := Lib.hid hbz
  have HZ := Lib.hid (show CellsN W (w.heap.size + 1) [.int .i64 0, .slice none 0 0, .slice none 0 0] by rw [hW]; simpa using cellsN_new (w.alloc (.cells #[.int .i64 ref] 3)) [.int .i64 0, .slice none 0 0, .slice none 0 0] 132)
  have HIX := Lib.hid (Li.ix_row 96 row1_enters row1_cl A N.rows.length c (rowF N.rows) vw vl ref w.heap.size W (by omega) (hR.below hbz) (by rw [hW]; simp; omega) (by rw [hW]; simp [go_sem]))
  have HWW := Lib.hid hW
  clear hr hR hR0 hbz h4 hW hf0 c40
  by_cases hi : ∃ i, Li.OkIx (rowF N.rows) N.rows.length ref i
  · obtain ⟨i, hi⟩ := hi
    have HI := Lib.hid hi.ix
    have HRD := Lib.hid (show rowD N.rows ref = rowF N.rows i by unfold rowD; rw [okIx_iff hok hi]; rfl)
    have hlt := hi.2.1
    clear hi hok
    go_enter Tryz.func64, Tryz.ntmps64
    go_wp2_with fail
    rw [← HWW.out]
    refine HIX.out.mono ?_
    rintro e w2 ⟨rfl, hb2⟩
    rw [HI.out]
    have HB2 := Lib.hid (HB.out.trans (hb2.mono HB.out.size))
    have HZ2 := Lib.hid (HZ.out.fr (Fr.of_below (S := fun _ => False) hb2) (fun h => h))
    have d4 := (HB2.out.cell (p := ⟨p, 4, none⟩) hplt).trans c4
    obtain ⟨b, off, rfl, hb0, hc⟩ := (HR.out.below HB2.out).row (by omega)
    have r0 := hc i hlt 0 _ rfl
    have r1 := hc i hlt 1 _ rfl
    have r2 := hc i hlt 2 _ rfl
    rw [Nat.add_zero] at r0
    obtain ⟨⟨B1, e1, hv1, s1⟩, ⟨B2, e2, hv2, s2⟩⟩ := HR0.out.each i hlt
    rw [hv1] at r1
    rw [hv2] at r2
    have HS := Lib.hid (show NumIn w0 (fun b => b < w0.heap.size) (.slice B1 (rowF N.rows i).ws.length e1) (rowF N.rows i).ws ∧ NumIn w0 (fun b => b < w0.heap.size) (.slice B2 (rowF N.rows i).ls.length e2) (rowF N.rows i).ls from ⟨numIn_sl ⟨B1, e1, rfl, s1⟩, numIn_sl ⟨B2, e2, rfl, s2⟩⟩)
    clear hv1 hv2 s1 s2
    have z0 := HZ2.out.1 0 _ rfl
    have z1 := HZ2.out.1 1 _ rfl
    have z2 := HZ2.out.1 2 _ rfl
    have zf := HZ2.out.2.1
    have i1 : (0 : Int) ≤ (i : Int) := by omega
    have i2 : (i : Int) < (N.rows.length : Int) := by omega
    have i3 : ¬ (i : Int) < 0 := by omega
    clear hb2 hc c4
    go_wp2_with fail
    refine bodyPost_ret (v := .agg #[.int .i64 (rowF N.rows i).ref, .slice B1 (rowF N.rows i).ws.length e1, .slice B2 (rowF N.rows i).ls.length e2]) (by simp [results, Tryz.results64, go_sem, z0, z1, z2]) rfl ?_
    rw [HRD.out]
    have hfin : Fr (fun k => w.heap.size ≤ k) w (((w2.setCell ⟨w.heap.size + 1, 0, none⟩ (.int .i64 (rowF N.rows i).ref)).setCell ⟨w.heap.size + 1, 1, none⟩ (.slice B1 (rowF N.rows i).ws.length e1)).setCell ⟨w.heap.size + 1, 2, none⟩ (.slice B2 (rowF N.rows i).ls.length e2)) := (((Fr.of_below (S := fun k => w.heap.size ≤ k) HB2.out).set (Or.inl (by show w.heap.size ≤ w.heap.size + 1; omega)) _).set (Or.inl (by show w.heap.size ≤ w.heap.size + 1; omega)) _).set (Or.inl (by show w.heap.size ≤ w.heap.size + 1; omega)) _
    have hz0 := HF0.out.size
    have hf9 : Fr (fun k => w.heap.size ≤ k) w0 _ := (HF0.out.weak (fun _ h => h.elim)).trans' hfin
    exact ⟨_, _, rfl, HS.out.1.fr hf9 (fun b hb hD => by have h1 : b < w0.heap.size := hb; have h2 : w.heap.size ≤ b := hD; omega) (fun _ h => h), HS.out.2.fr hf9 (fun b hb hD => by have h1 : b < w0.heap.size := hb; have h2 : w.heap.size ≤ b := hD; omega) (fun _ h => h), hfin.below (fun k hk => hk) (Nat.le_refl _)⟩
  · have HI := Lib.hid (Li.ix_none hok hi)
    have HRD := Lib.hid (show rowD N.rows ref = dRow by unfold rowD; rw [rowL_none hok hi]; rfl)
    clear hi hok
    go_enter Tryz.func64, Tryz.ntmps64
    go_wp2_with fail
    rw [← HWW.out]
    refine HIX.out.mono ?_
    rintro e w2 ⟨rfl, hb2⟩
    rw [HI.out]
    have HB2 := Lib.hid (HB.out.trans (hb2.mono HB.out.size))
    have HZ2 := Lib.hid (HZ.out.fr (Fr.of_below (S := fun _ => False) hb2) (fun h => h))
    have z0 := HZ2.out.1 0 _ rfl
    have z1 := HZ2.out.1 1 _ rfl
    have z2 := HZ2.out.1 2 _ rfl
    have zf := HZ2.out.2.1
    clear hb2
    go_wp2_with fail
    refine bodyPost_ret (v := .agg #[.int .i64 0, .slice none 0 0, .slice none 0 0]) (by simp [results, Tryz.results64, go_sem, z0, z1, z2]) rfl ?_
    rw [HRD.out]
    refine ⟨_, _, rfl, numIn_nil' _ _, numIn_nil' _ _, ?_⟩
    iterate 3 (refine below_set ?_ (by omega))
    exact HB2.out
set_option maxRecDepth 100000 in
set_option maxHeartbeats 4000000 in
theorem nsave_any {w : World} {X M : Nat → Prop} {base T p : Nat} {P : Int → Nat} {N : NdS} (h : NodeAt w X M base T p P N) {ref : Int} {a : ActS} (ha : N.find ref = some a) (hw : a.waits = true) :
    Calls Tryz.prog 63 #[.pointer (some ⟨p, 0, none⟩), .int .i64 ref] w (SavedPost a.d.nm 2 (topV a.d.r) w (fun v => .tuple #[v, .int .i64 0])) := by
  have hplt := h.p_lt
  obtain ⟨hm, hr⟩ := find_some ha
  have hok := h.ok.act a hm
  obtain ⟨pa, b, rb, kb, ib, MA, mb, hpa, c3, hA, hMA, hlk, -⟩ := h.act ha
  have hlook := fun (W : World) (hf : Fr (fun _ => False) w W) => hlk W (hf.weak (fun _ h => h.elim))
  have HLK := Lib.hid hlook
  have a0 := hA.a0
  have a4 := hA.a4
  rw [hw] at a4
  have hpl := hA.lt.1
  obtain ⟨W, hW⟩ : ∃ W, W = w.alloc (.cells #[.string ⟨#[]⟩, .slice none 0 0, .slice none 0 0] 80) := ⟨_, rfl⟩
  have hfW : Fr (fun _ => False) w W := by rw [hW]; exact (Fr.refl _ _).alloc _
  have hdia : DiaAt W X base T b rb ib a.d := hA.dia.fr hfW (fun _ h => h.elim) (fun k hk => .inl hk) (fun _ h => h.elim) (Nat.le_refl _) (fun h => h) (fun h => h) (fun _ _ h => h)
  have HS := Lib.hid (dsave_any X base T b rb ib a.d W hdia (hok.waits hw))
  have HZ := Lib.hid (show CellsN W w.heap.size [.string ⟨#[]⟩, .slice none 0 0, .slice none 0 0] by rw [hW]; exact cellsN_new w _ _)
  have HF := Lib.hid hfW
  have HWW := Lib.hid hW
  have d0 := hfW.cell a0 (fun h => h)
  have d3 := hfW.cell c3 (fun h => h)
  have d4 := hfW.cell a4 (fun h => h)
  have hl1 := hlook (w.alloc (.cells #[.string ⟨#[]⟩, .slice none 0 0, .slice none 0 0] 80)) ((Fr.refl _ _).alloc _)
  have hzW := hfW.size
  clear h ha hok hA hMA hlk hdia hW hfW hpa hm hlook
  have HD := Lib.hid (And.intro d0 (And.intro d3 d4))
  clear d0 d3 d4
  go_enter Tryz.func63, Tryz.ntmps63
  go_wp2_with fail
  rw [← HWW.out]
  refine HS.out.mono ?_
  rintro e w1 ⟨A', c', rfl, q1, q2, q3, hb1⟩
  have HQ := Lib.hid q3
  have HB := Lib.hid hb1
  have HZ1 := Lib.hid (HZ.out.fr (Fr.of_below (S := fun _ => False) hb1) (fun h => h))
  have z0 := HZ1.out.1 0 _ rfl
  have z1 := HZ1.out.1 1 _ rfl
  have z2 := HZ1.out.1 2 _ rfl
  have zf := HZ1.out.2.1
  clear q3 hb1 a0 a4 c3 hl1
  go_wp2_with fail
  refine bodyPost_ret (v := .tuple #[.agg #[.string a.d.nm, .slice A' 2 c', .slice none 0 0], .int .i64 0]) (by simp [results, Tryz.results63, go_sem, z0, z1, z2]) rfl ⟨A', c', rfl, q1, q2, ?_, ?_⟩
  · refine RdV.lower (B := W.heap.size) (RdV.fr3 (D := fun k => k = w.heap.size) HQ.out ?_ (fun k hk => by have := HZ.out.2.2; omega)) hzW
    iterate 3 (refine Fr.setAt ?_ _)
    exact Fr.refl _ _
  · iterate 3 (refine below_set ?_ (Nat.le_refl _))
    exact (HF.out.below (fun _ h => h.elim) (Nat.le_refl _)).trans (HB.out.mono hzW)
def SaveNo (x : Int) (w : World) (e : Ending) (w' : World) : Prop := e = .returned (.tuple #[.agg #[.string ⟨#[]⟩, .slice none 0 0, .slice none 0 0], .int .i64 x]) ∧ Below w.heap.size w w'
set_option maxRecDepth 100000 in
set_option maxHeartbeats 4000000 in
theorem nsave_no {w : World} {X M : Nat → Prop} {base T p : Nat} {P : Int → Nat} {N : NdS} (h : NodeAt w X M base T p P N) {ref : Int} {a : ActS} (ha : N.find ref = some a) (hw : a.waits = false) :
    Calls Tryz.prog 63 #[.pointer (some ⟨p, 0, none⟩), .int .i64 ref] w (SaveNo 9 w) := by
  have hplt := h.p_lt
  obtain ⟨pa, b, rb, kb, ib, MA, mb, hpa, c3, hA, hMA, hlk, -⟩ := h.act ha
  have a4 := hA.a4
  rw [hw] at a4
  have hpl := hA.lt.1
  have hl1 := hlk (w.alloc (.cells #[.string ⟨#[]⟩, .slice none 0 0, .slice none 0 0] 80)) ((Fr.refl _ _).alloc _)
  clear h ha hA hMA hlk hpa hw
  go_enter Tryz.func63, Tryz.ntmps63
  go_wp2_with fail
  refine bodyPost_ret (v := .tuple #[.agg #[.string ⟨#[]⟩, .slice none 0 0, .slice none 0 0], .int .i64 9]) (by simp [results, Tryz.results63, go_sem]) rfl ⟨rfl, ?_⟩
  exact (Below.refl _ _).alloc (Nat.le_refl _) _
set_option maxRecDepth 100000 in
set_option maxHeartbeats 4000000 in
theorem nsave_none {w : World} {X M : Nat → Prop} {base T p : Nat} {P : Int → Nat} {N : NdS} (h : NodeAt w X M base T p P N) {ref : Int} (hr : Wf ref) (hn : N.has ref = false) :
    Calls Tryz.prog 63 #[.pointer (some ⟨p, 0, none⟩), .int .i64 ref] w (SaveNo 4 w) := by
  have hplt := h.p_lt
  obtain ⟨mb, c3, hmb, _, hlk1, hlk2⟩ := h.look
  have hl1 := hlk2 ref hr hn (w.alloc (.cells #[.string ⟨#[]⟩, .slice none 0 0, .slice none 0 0] 80)) ((Fr.refl _ _).alloc _)
  clear h hlk1 hlk2
  go_enter Tryz.func63, Tryz.ntmps63
  go_wp2_with fail
  refine bodyPost_ret (v := .tuple #[.agg #[.string ⟨#[]⟩, .slice none 0 0, .slice none 0 0], .int .i64 4]) (by simp [results, Tryz.results63, go_sem]) rfl ⟨rfl, ?_⟩
  exact (Below.refl _ _).alloc (Nat.le_refl _) _
/-- one goes on for sure -/
def canL (N : NdS) (ref : Int) : Bool := match N.find ref with
  | some a => !a.waits
  | none => false
set_option maxRecDepth 100000 in
set_option maxHeartbeats 4000000 in
theorem canL_any {w : World} {X M : Nat → Prop} {base T p : Nat} {P : Int → Nat} {N : NdS} (h : NodeAt w X M base T p P N) {ref : Int} (hr : Wf ref) :
    Calls Tryz.prog 39 #[.pointer (some ⟨p, 0, none⟩), .int .i64 ref] w fun e w' => e = .returned (.bool (canL N ref)) ∧ Below w.heap.size w w' := by
  rcases ha : N.find ref with _ | a
  · have hn : N.has ref = false := by unfold NdS.has; rw [ha]; rfl
    have HS := Lib.hid (nsave_none h hr hn)
    have HC := Lib.hid (show canL N ref = false by unfold canL; rw [ha])
    clear h ha hn
    go_enter Tryz.func39, Tryz.ntmps39
    go_wp2_with fail
    refine HS.out.mono ?_
    rintro e w1 ⟨rfl, hb⟩
    have HB := Lib.hid hb
    clear hb
    go_wp2_with fail
    go_ret
    exact ⟨by rw [HC.out]; rfl, HB.out.alloc HB.out.size _⟩
  · rcases hw : a.waits with _ | _
    · have HS := Lib.hid (nsave_no h ha hw)
      have HC := Lib.hid (show canL N ref = true by unfold canL; rw [ha]; show (!a.waits) = true; rw [hw]; rfl)
      clear h ha hw
      go_enter Tryz.func39, Tryz.ntmps39
      go_wp2_with fail
      refine HS.out.mono ?_
      rintro e w1 ⟨rfl, hb⟩
      have HB := Lib.hid hb
      clear hb
      go_wp2_with fail
      go_ret
      exact ⟨by rw [HC.out]; rfl, HB.out.alloc HB.out.size _⟩
    · have HS := Lib.hid (nsave_any h ha hw)
      have HC := Lib.hid (show canL N ref = false by unfold canL; rw [ha]; show (!a.waits) = false; rw [hw]; rfl)
      clear h ha hw
      go_enter Tryz.func39, Tryz.ntmps39
      go_wp2_with fail
      refine HS.out.mono ?_
      rintro e w1 ⟨A', c', rfl, _, _, _, hb⟩
      have HB := Lib.hid hb
      clear hb
      go_wp2_with fail
      go_ret
      exact ⟨by rw [HC.out]; rfl, HB.out.alloc HB.out.size _⟩
end Go.Proofs.YtjjfglbcikaicaaGreat
namespace Go.Proofs.YtjjfglbcikaicaaGreat
open Go.RowKit Go.Maps
set_option linter.unusedVariables false
set_option linter.unusedSimpArgs false
/-- the parcel of an actor -/
def pclN (N : NdS) (a : ActS) : PclS := ⟨a.ref, a.d.nm, topV a.d.r, a.box, a.ticks, (rowD N.rows a.ref).ws, (rowD N.rows a.ref).ls⟩
theorem rowD_ok {rows : List Li.LR} (ok : Li.OkL (rowF rows) rows.length) (ref : Int) : (rowD rows ref).ws.length ≤ 100 ∧ (rowD rows ref).ls.length ≤ 100 := by
  by_cases hi : ∃ i, Li.OkIx (rowF rows) rows.length ref i
  · obtain ⟨i, hi⟩ := hi
    unfold rowD
    rw [okIx_iff ok hi]
    exact ⟨(ok.2 i hi.2.1).2.1, (ok.2 i hi.2.1).2.2.1⟩
  · unfold rowD
    rw [rowL_none ok hi]
    exact ⟨Nat.zero_le _, Nat.zero_le _⟩
theorem cells3_of {w : World} {q : Nat} {c0 c1 c2 : Value} (h0 : w.cell? ⟨q, 0, none⟩ = some c0) (h1 : w.cell? ⟨q, 1, none⟩ = some c1) (h2 : w.cell? ⟨q, 2, none⟩ = some c2) (hf : ∀ o, w.frozen? ⟨q, o, none⟩ = false) : CellsN w q [c0, c1, c2] := ⟨fun j u hu => by
  match j, hu with
  | 0, hu => injection hu with hu; subst hu; exact h0
  | 1, hu => injection hu with hu; subst hu; exact h1
  | 2, hu => injection hu with hu; subst hu; exact h2, hf, World.block_lt_of_cell? w _ h0⟩
set_option maxRecDepth 100000 in
set_option maxHeartbeats 8000000 in
theorem parcel_any {w : World} {X M : Nat → Prop} {base T p : Nat} {P : Int → Nat} {N : NdS} (h : NodeAt w X M base T p P N) {ref : Int} {a : ActS} (ha : N.find ref = some a) (hw : a.waits = true) :
    Calls Tryz.prog 36 #[.pointer (some ⟨p, 0, none⟩), .int .i64 ref] w (PclPost (pclN N a) w (fun v => .tuple #[v, .int .i64 0])) := by
  obtain ⟨hm, rfl⟩ := find_some ha
  obtain ⟨W, hW⟩ : ∃ W, W = w.alloc (.cells #[.int .i64 0, .string ⟨#[]⟩, .slice none 0 0, .slice none 0 0, .slice none 0 0, .int .i64 0, .slice none 0 0, .slice none 0 0] 82) := ⟨_, rfl⟩
  have hfW : Fr (fun _ => False) w W := by rw [hW]; exact (Fr.refl _ _).alloc _
  have HZ := Lib.hid (show CellsN W w.heap.size [.int .i64 0, .string ⟨#[]⟩, .slice none 0 0, .slice none 0 0, .slice none 0 0, .int .i64 0, .slice none 0 0, .slice none 0 0] by rw [hW]; exact cellsN_new w _ _)
  have HN := Lib.hid (h.new hfW (fun _ h => h))
  have HA := Lib.hid ha
  have HSV := Lib.hid (nsave_any HN.out ha hw)
  have hok := h.ok.act a hm
  have HBX := Lib.hid hok.box
  have HRO := Lib.hid (rowD_ok h.ok.rows.ok a.ref)
  have hzW := hfW.size
  have HF := Lib.hid hfW
  have HWW := Lib.hid hW
  have hplt := HN.out.p_lt
  clear h ha hm hok hW hfW
  go_enter Tryz.func36, Tryz.ntmps36
  go_wp2_with fail
  rw [← HWW.out]
  refine HSV.out.mono ?_
  rintro e w1 ⟨A2, c2, rfl, q1, q2, q3, hb1⟩
  have HQ := Lib.hid (And.intro q1 (And.intro q2 q3))
  have HB1 := Lib.hid (Fr.of_below (S := fun _ => False) hb1)
  clear q1 q2 q3 hb1 HSV
  go_wp2_with fail
  obtain ⟨W2, hW2⟩ : ∃ W2, W2 = w1.alloc (.cells #[.string a.d.nm, .slice A2 2 c2, .slice none 0 0] 80) := ⟨_, rfl⟩
  have hf2 : Fr (fun _ => False) w1 W2 := by rw [hW2]; exact (Fr.refl _ _).alloc _
  have HS2 := Lib.hid (show CellsN W2 w1.heap.size [.string a.d.nm, .slice A2 2 c2, .slice none 0 0] by rw [hW2]; exact cellsN_new w1 _ _)
  have HF2 := Lib.hid (HB1.out.trans' hf2)
  have HFW12 := Lib.hid hf2
  have HN2 := Lib.hid (HN.out.new HF2.out (fun _ h => h))
  have HZ2 := Lib.hid (HZ.out.fr HF2.out (fun h => h))
  obtain ⟨pa, b, rb, kb, ib, MA, mb, hpa, c3, hA, hMA, hlk, -⟩ := HN2.out.act HA.out
  have HLK := Lib.hid hlk
  have HAG := Lib.hid hA
  have HROW := Lib.hid (fun (W9 : World) (hf : Fr (fun _ => False) W2 W9) => row_any HN2.out hf a.ref)
  have l0 := hlk W2.drew ((Fr.refl _ _).drew)
  have l1 := hlk (W2.alloc (.cells #[.int .i64 0, .slice none 0 0, .slice none 0 0] 132)).drew (((Fr.refl _ _).alloc _).drew)
  have c3' : W2.drew.cell? ⟨p, 3, none⟩ = some (.map (some mb)) := c3
  have hplt2 := HN2.out.p_lt
  rw [← hW2]
  clear hW2 hf2 hpa hA hMA hlk
  go_cut [8, 9] (fun v8 v9 wx => v8 = .pointer (some ⟨pa, 0, none⟩) ∧ ∃ q A6 c6 A7 c7, v9 = .pointer (some ⟨q, 0, none⟩) ∧ CellsN wx q [.int .i64 (rowD N.rows a.ref).ref, .slice A6 (rowD N.rows a.ref).ws.length c6, .slice A7 (rowD N.rows a.ref).ls.length c7] ∧ Hid (NumIn wx (fun b => b < W2.heap.size) (.slice A6 (rowD N.rows a.ref).ws.length c6) (rowD N.rows a.ref).ws) ∧ Hid (NumIn wx (fun b => b < W2.heap.size) (.slice A7 (rowD N.rows a.ref).ls.length c7) (rowD N.rows a.ref).ls) ∧ Hid (Fr (fun _ => False) W2 wx))
  case first =>
    go_region_with (first
      | (go_at_call 64; refine (HROW.out _ (by (repeat' first | with_reducible exact Fr.refl _ _ | (with_reducible refine Fr.setEq ?_ _) | (with_reducible refine Fr.setNew ?_ _) | with_reducible refine Fr.alloc ?_ _ | with_reducible refine Fr.drewN ?_ _ | with_reducible refine Fr.drew ?_))).mono ?_; rintro e w3 ⟨v1, v2, rfl, n1, n2, hb3⟩; have HN1 := Lib.hid n1; have HN2' := Lib.hid n2; obtain ⟨A6, c6, e6, -⟩ := n1; obtain ⟨A7, c7, e7, -⟩ := n2; subst e6; subst e7; have HF3 := Lib.hid (show Fr (fun _ => False) W2 w3 from (show Fr (fun _ => False) W2 _ by (repeat' first | with_reducible exact Fr.refl _ _ | (with_reducible refine Fr.setEq ?_ _) | (with_reducible refine Fr.setNew ?_ _) | with_reducible refine Fr.alloc ?_ _ | with_reducible refine Fr.drewN ?_ _ | with_reducible refine Fr.drew ?_)).trans' (Fr.of_below (below_drew' hb3))); (first | (have HCQ := Lib.hid ((cellsN_new W2 [.int .i64 0, .slice none 0 0, .slice none 0 0] 132).fr (D := fun _ => False) (Fr.of_below (below_drew' hb3)) (fun h => h)); have k0 := HCQ.out.1 0 _ rfl; have k1 := HCQ.out.1 1 _ rfl; have k2 := HCQ.out.1 2 _ rfl; have kf := HCQ.out.2.1) | skip); have l3 := HLK.out w3 (HF3.out.weak (fun _ h => h.elim)); have l4 := HLK.out (w3.alloc (.cells #[.int .i64 0, .slice none 0 0, .slice none 0 0] 132)) ((HF3.out.alloc _).weak (fun _ h => h.elim)); have d3 := HF3.out.cell c3 (fun h => h); have hp3 := Nat.lt_of_lt_of_le hplt2 HF3.out.size; clear hb3))
    all_goals
      go_wp2_with fail
      go_meet
      refine ⟨rfl, ?_⟩
      first
        | (refine ⟨w3.heap.size, A6, c6, A7, c7, (by with_reducible rfl), ?_, ?_, ?_, ?_⟩
           · exact cellsN_new w3 [_, _, _] _
           · exact Lib.hid (HN1.out.fr (S := fun _ => False) ((Fr.refl _ _).alloc _) (fun _ _ h => h) (fun _ h => h))
           · exact Lib.hid (HN2'.out.fr (S := fun _ => False) ((Fr.refl _ _).alloc _) (fun _ _ h => h) (fun _ h => h))
           · exact Lib.hid (HF3.out.alloc _))
        | (refine ⟨W2.heap.size, A6, c6, A7, c7, (by with_reducible rfl), ?_, ?_, ?_, ?_⟩
           · exact cells3_of (set_other (set_other (set_this k0) (by decide)) (by decide)) (set_other (set_this (set_other k1 (by decide))) (by decide)) (set_this (set_other (set_other k2 (by decide)) (by decide))) (fun o => set_fz (set_fz (set_fz kf)) o)
           · refine Lib.hid (HN1.out.fr (S := fun k => k = W2.heap.size) ?_ (fun b hb e => by have h1 : b < W2.heap.size := hb; omega) (fun _ h => h))
             iterate 3 (refine Fr.setAt ?_ _)
             exact Fr.refl _ _
           · refine Lib.hid (HN2'.out.fr (S := fun k => k = W2.heap.size) ?_ (fun b hb e => by have h1 : b < W2.heap.size := hb; omega) (fun _ h => h))
             iterate 3 (refine Fr.setAt ?_ _)
             exact Fr.refl _ _
           · exact Lib.hid (((HF3.out.set (Or.inr (Nat.le_refl _)) _).set (Or.inr (Nat.le_refl _)) _).set (Or.inr (Nat.le_refl _)) _))
  case rest =>
    obtain ⟨rfl, q, A6, c6, A7, c7, rfl, HQc, HN6, HN7, HFc⟩ := hcut
    have s0 := (HS2.out.fr HFc.out (fun h => h)).1 0 _ rfl
    have s1 := (HS2.out.fr HFc.out (fun h => h)).1 1 _ rfl
    have s2 := (HS2.out.fr HFc.out (fun h => h)).1 2 _ rfl
    have q1 := HQc.1 1 _ rfl
    have q2 := HQc.1 2 _ rfl
    have hAc := HAG.out.fr (X' := X) HFc.out (fun _ h => h.elim) (fun k hk => .inl hk) (fun _ h => h.elim) (Nat.le_refl _) (fun _ _ h => h)
    obtain ⟨A4, c4, a2, k1, k2, k3⟩ := hAc.a2
    have a5 := hAc.a5
    have HBX2 := Lib.hid (And.intro k1 (And.intro k2 k3))
    have hpl := hAc.lt.1
    have hsl : w1.heap.size < wc.heap.size := (HS2.out.fr HFc.out (fun h => h)).2.2
    have hql := HQc.2.2
    have HZc := Lib.hid (HZ2.out.fr HFc.out (fun h => h))
    have HFA := Lib.hid ((HB1.out.trans' (show Fr (fun _ => False) w1 W2 from HFW12.out)).trans' HFc.out)
    have HCP := Lib.hid (fun (W9 : World) (hf : Fr (fun _ => False) wc W9) => pcopy_any (pclN N a) [.int .i64 a.ref, .string a.d.nm, .slice A2 2 c2, .slice none 0 0, .slice A4 a.box.length c4, .int .i64 a.ticks, .slice A6 (rowD N.rows a.ref).ws.length c6, .slice A7 (rowD N.rows a.ref).ls.length c7] (fun _ => True) W9
      ⟨A2, c2, A4, c4, _, _, rfl, HQ.out.1, HQ.out.2.1, HBX2.out.1, HBX2.out.2.1, HQ.out.2.2.frame (Nat.le_trans HFW12.out.size (Nat.le_trans HFc.out.size hf.size)) (fun b hb hlt => ⟨trivial, ((HFW12.out.trans' HFc.out).trans' hf).block b hlt (fun h => h)⟩), HBX2.out.2.2.frame hf.size (fun b hb hlt => ⟨trivial, hf.block b hlt (fun h => h)⟩), HN6.out.fr hf (fun _ _ h => h) (fun _ _ => trivial), HN7.out.fr hf (fun _ _ h => h) (fun _ _ => trivial)⟩
      HBX.out.1 (fun i hi => by have := (HBX.out.2.2 _ (nthL_mem hi)).2.2.2.2.2; have h2 : (nthL (pclN N a).box i).val.many = (nthL a.box i).val.many := rfl; omega) (fun i hi => by show (topV a.d.r i).many ≤ 4194304; unfold topV; split <;> simp [vLeaf, VT.many, sumTo]) (by have := HRO.out.1; show (rowD N.rows a.ref).ws.length ≤ 1000000; omega) (by have := HRO.out.2; show (rowD N.rows a.ref).ls.length ≤ 1000000; omega))
    clear hAc k1 k2 k3 HQc l0 l1 c3' c3
    go_wp2_with fail
    go_region
    go_wp2_with fail
    refine (HCP.out _ (by (repeat' first | with_reducible exact Fr.refl _ _ | (with_reducible refine Fr.setEq ?_ _) | (with_reducible refine Fr.setNew ?_ _) | with_reducible refine Fr.alloc ?_ _ | with_reducible refine Fr.drewN ?_ _ | with_reducible refine Fr.drew ?_))).mono ?_
    rintro e w5 ⟨B2, d2, B4, d4, C4, B6, d6, B7, d7, rfl, g1, g2, g3, g4, g5, g6, hb5⟩
    simp only [id]
    have hf5 : Fr (fun _ => False) wc w5 := (show Fr (fun _ => False) wc _ by (repeat' first | with_reducible exact Fr.refl _ _ | (with_reducible refine Fr.setEq ?_ _) | (with_reducible refine Fr.setNew ?_ _) | with_reducible refine Fr.alloc ?_ _ | with_reducible refine Fr.drewN ?_ _ | with_reducible refine Fr.drew ?_)).trans' (Fr.of_below hb5)
    have HZ5 := Lib.hid (HZc.out.fr hf5 (fun h => h))
    have hzz : W.heap.size ≤ (wc.alloc (.cells #[.int .i64 a.ref, .string a.d.nm, .slice A2 2 c2, .slice none 0 0, .slice A4 a.box.length c4, .int .i64 a.ticks, .slice A6 (rowD N.rows a.ref).ws.length c6, .slice A7 (rowD N.rows a.ref).ls.length c7] 82)).drew.heap.size := by
      have h1 := HFA.out.size
      show W.heap.size ≤ (wc.alloc _).heap.size
      simp
      omega
    have hq0 : w.heap.size < W.heap.size := HZ.out.2.2
    have hlow : w.heap.size ≤ (wc.alloc (.cells #[.int .i64 a.ref, .string a.d.nm, .slice A2 2 c2, .slice none 0 0, .slice A4 a.box.length c4, .int .i64 a.ticks, .slice A6 (rowD N.rows a.ref).ws.length c6, .slice A7 (rowD N.rows a.ref).ls.length c7] 82)).drew.heap.size := by omega
    have HG3 := Lib.hid (RdV.lower g3 (by exact hzz))
    have HG4 := Lib.hid (LRow.lower g4 (by exact hzz))
    have HG5 := Lib.hid (OwnI.mono (base' := W.heap.size) g5 hzz)
    have HG6 := Lib.hid (OwnI.mono (base' := W.heap.size) g6 hzz)
    have HF5 := Lib.hid ((HF.out.trans' HFA.out).trans' hf5)
    have z0 := HZ5.out.1 0 _ rfl
    have z1 := HZ5.out.1 1 _ rfl
    have z2 := HZ5.out.1 2 _ rfl
    have z3 := HZ5.out.1 3 _ rfl
    have z4 := HZ5.out.1 4 _ rfl
    have z5 := HZ5.out.1 5 _ rfl
    have z6 := HZ5.out.1 6 _ rfl
    have z7 := HZ5.out.1 7 _ rfl
    have zf := HZ5.out.2.1
    clear g3 g4 g5 g6 hb5 hf5 hzz hlow HCP
    go_wp2_with fail
    refine bodyPost_ret (v := .tuple #[.agg #[.int .i64 a.ref, .string a.d.nm, .slice B2 2 d2, .slice none 0 0, .slice B4 a.box.length d4, .int .i64 a.ticks, .slice B6 (rowD N.rows a.ref).ws.length d6, .slice B7 (rowD N.rows a.ref).ls.length d7], .int .i64 0]) (by simp [results, Tryz.results36, go_sem, z0, z1, z2, z3, z4, z5, z6, z7, pclN]) rfl ⟨B2, d2, B4, d4, C4, B6, d6, B7, d7, rfl, g1, g2, ?_, ?_, ?_, ?_, ?_⟩
    · refine RdV.lower (B := W.heap.size) (RdV.fr3 (D := fun k => k = w.heap.size) HG3.out ?_ (fun k hk => by omega)) (by omega)
      iterate 8 (refine Fr.setAt ?_ _)
      exact Fr.refl _ _
    · refine LRow.lower (base := W.heap.size) (LRow.fr (S := fun k => k = w.heap.size) HG4.out ?_ (fun k hk => by omega)) (by omega)
      iterate 8 (refine Fr.setAt ?_ _)
      exact Fr.refl _ _
    · refine OwnI.fr (S := fun k => k = w.heap.size) (OwnI.mono (base' := w.heap.size) HG5.out (by omega)) ?_ (fun k hk hq => by have := (HG5.out.blk k hk).1; omega)
      iterate 8 (refine Fr.setAt ?_ _)
      exact Fr.refl _ _
    · refine OwnI.fr (S := fun k => k = w.heap.size) (OwnI.mono (base' := w.heap.size) HG6.out (by omega)) ?_ (fun k hk hq => by have := (HG6.out.blk k hk).1; omega)
      iterate 8 (refine Fr.setAt ?_ _)
      exact Fr.refl _ _
    · iterate 8 (refine below_set ?_ (Nat.le_refl _))
      exact HF5.out.below (fun _ h => h.elim) (Nat.le_refl _)
end Go.Proofs.YtjjfglbcikaicaaGreat
namespace Go.Proofs.YtjjfglbcikaicaaGreat
open Go.RowKit Go.Maps
set_option linter.unusedVariables false
set_option linter.unusedSimpArgs false
/-- a row of numbers of the call's own, as numbers to be read -/
theorem ownI_in {w : World} {B c : Nat} {A : Option Addr} {l : List Int} (h : OwnI w B (.slice A l.length c) l) : NumIn w (fun b => B ≤ b ∧ b < w.heap.size) (.slice A l.length c) l := by
  obtain ⟨A', c', e, h1, h2, h3⟩ := own_any h
  have e' : A = A' ∧ c = c' := by
    injection e with e1 _ e3
    exact ⟨e1, e3⟩
  obtain ⟨rfl, rfl⟩ := e'
  refine ⟨A, c, rfl, h1, h2, fun h0 => ?_⟩
  obtain ⟨g, cap, hv, hb, hlt, _⟩ := own_form h h0
  injection hv with e1 _ e3
  subst e1
  refine ⟨g, 0, rfl, ⟨hb, hlt⟩, fun j hj => ?_⟩
  have := own_cellC (G := tmC (lst l)) (sz := 1) (k := j) (j := 0) (by rw [flatC_lst]; exact h) (tmC_len _) hj (by omega)
  simpa [tmC] using this
/-- what a parcel holds, behind the call -/
theorem pclAt_of {p : PclS} {w w' : World} {A2 A4 A6 A7 : Option Addr} {c2 c4 c6 c7 : Nat} {C : Nat → List Value} (h1 : 2 ≤ c2) (h2 : c2 ≤ 9223372036854775807) (h3 : RdV w' (fun b => w.heap.size ≤ b) A2 2 p.st) (h4 : LRow w' w.heap.size (.slice A4 p.box.length c4) p.box.length C (nthL p.box)) (h5 : OwnI w' w.heap.size (.slice A6 p.ws.length c6) p.ws) (h6 : OwnI w' w.heap.size (.slice A7 p.ls.length c7) p.ls) :
    PclAt w' (fun b => w.heap.size ≤ b ∧ b < w'.heap.size) p [.int .i64 p.ref, .string p.nm, .slice A2 2 c2, .slice none 0 0, .slice A4 p.box.length c4, .int .i64 p.ticks, .slice A6 p.ws.length c6, .slice A7 p.ls.length c7] := by
  obtain ⟨A', c', e, k1, k2, _⟩ := own_any h4.row
  have e' : c4 = c' := by
    injection e with _ _ e3
  subst e'
  exact ⟨A2, c2, A4, c4, _, _, rfl, h1, h2, k1, k2, h3.frame (Nat.le_refl _) (fun b hb hlt => ⟨⟨hb, hlt⟩, rfl⟩), h4.rd.frame (Nat.le_refl _) (fun b hb hlt => ⟨⟨hb, hlt⟩, rfl⟩), ownI_in h5, ownI_in h6⟩
def zeroPcl : Value := .agg #[.int .i64 0, .string ⟨#[]⟩, .slice none 0 0, .slice none 0 0, .slice none 0 0, .int .i64 0, .slice none 0 0, .slice none 0 0]
set_option maxRecDepth 100000 in
set_option maxHeartbeats 8000000 in
theorem parcel_no {w : World} {X M : Nat → Prop} {base T p : Nat} {P : Int → Nat} {N : NdS} (h : NodeAt w X M base T p P N) {ref : Int} {a : ActS} (ha : N.find ref = some a) (hw : a.waits = false) :
    Calls Tryz.prog 36 #[.pointer (some ⟨p, 0, none⟩), .int .i64 ref] w fun e w' => e = .returned (.tuple #[zeroPcl, .int .i64 9]) ∧ Below w.heap.size w w' := by
  obtain ⟨W, hW⟩ : ∃ W, W = w.alloc (.cells #[.int .i64 0, .string ⟨#[]⟩, .slice none 0 0, .slice none 0 0, .slice none 0 0, .int .i64 0, .slice none 0 0, .slice none 0 0] 82) := ⟨_, rfl⟩
  have hfW : Fr (fun _ => False) w W := by rw [hW]; exact (Fr.refl _ _).alloc _
  have HZ := Lib.hid (show CellsN W w.heap.size [.int .i64 0, .string ⟨#[]⟩, .slice none 0 0, .slice none 0 0, .slice none 0 0, .int .i64 0, .slice none 0 0, .slice none 0 0] by rw [hW]; exact cellsN_new w _ _)
  have HSV := Lib.hid (nsave_no (h.new hfW (fun _ h => h)) ha hw)
  have HF := Lib.hid hfW
  have HWW := Lib.hid hW
  clear h ha hw hW hfW
  go_enter Tryz.func36, Tryz.ntmps36
  go_wp2_with fail
  rw [← HWW.out]
  refine HSV.out.mono ?_
  rintro e w1 ⟨rfl, hb1⟩
  have HB1 := Lib.hid (Fr.of_below (S := fun _ => False) hb1)
  have HZ1 := Lib.hid (HZ.out.fr (Fr.of_below (S := fun _ => False) hb1) (fun h => h))
  have z0 := HZ1.out.1 0 _ rfl
  have z1 := HZ1.out.1 1 _ rfl
  have z2 := HZ1.out.1 2 _ rfl
  have z3 := HZ1.out.1 3 _ rfl
  have z4 := HZ1.out.1 4 _ rfl
  have z5 := HZ1.out.1 5 _ rfl
  have z6 := HZ1.out.1 6 _ rfl
  have z7 := HZ1.out.1 7 _ rfl
  have zf := HZ1.out.2.1
  have zl := HZ1.out.2.2
  clear hb1 HSV
  go_wp2_with fail
  refine bodyPost_ret (v := .tuple #[zeroPcl, .int .i64 9]) (by simp [results, Tryz.results36, go_sem, z0, z1, z2, z3, z4, z5, z6, z7, zl, zeroPcl]) rfl ⟨rfl, ?_⟩
  have hh := HF.out.trans' HB1.out
  refine Below.alloc ?_ ?_ _
  · iterate 8 (refine below_set ?_ (Nat.le_refl _))
    exact hh.below (fun _ h => h.elim) (Nat.le_refl _)
  · simp
    have := hh.size
    omega
set_option maxRecDepth 100000 in
set_option maxHeartbeats 8000000 in
theorem take_no {w : World} {X M : Nat → Prop} {base T p : Nat} {P : Int → Nat} {N : NdS} (h : NodeAt w X M base T p P N) {ref : Int} {a : ActS} (ha : N.find ref = some a) (hw : a.waits = false) :
    Calls Tryz.prog 42 #[.pointer (some ⟨p, 0, none⟩), .int .i64 ref] w fun e w' => e = .returned (.tuple #[zeroPcl, .int .i64 9]) ∧ Below w.heap.size w w' := by
  obtain ⟨W, hW⟩ : ∃ W, W = w.alloc (.cells #[.int .i64 0, .string ⟨#[]⟩, .slice none 0 0, .slice none 0 0, .slice none 0 0, .int .i64 0, .slice none 0 0, .slice none 0 0] 82) := ⟨_, rfl⟩
  have hfW : Fr (fun _ => False) w W := by rw [hW]; exact (Fr.refl _ _).alloc _
  have HZ := Lib.hid (show CellsN W w.heap.size [.int .i64 0, .string ⟨#[]⟩, .slice none 0 0, .slice none 0 0, .slice none 0 0, .int .i64 0, .slice none 0 0, .slice none 0 0] by rw [hW]; exact cellsN_new w _ _)
  have HPC := Lib.hid (parcel_no (h.new hfW (fun _ h => h)) ha hw)
  have HF := Lib.hid hfW
  have HWW := Lib.hid hW
  clear h ha hw hW hfW
  go_enter Tryz.func42, Tryz.ntmps42
  go_wp2_with fail
  rw [← HWW.out]
  refine HPC.out.mono ?_
  rintro e w1 ⟨rfl, hb1⟩
  unfold zeroPcl
  have HB1 := Lib.hid (Fr.of_below (S := fun _ => False) hb1)
  have HZ1 := Lib.hid (HZ.out.fr (Fr.of_below (S := fun _ => False) hb1) (fun h => h))
  have z0 := HZ1.out.1 0 _ rfl
  have z1 := HZ1.out.1 1 _ rfl
  have z2 := HZ1.out.1 2 _ rfl
  have z3 := HZ1.out.1 3 _ rfl
  have z4 := HZ1.out.1 4 _ rfl
  have z5 := HZ1.out.1 5 _ rfl
  have z6 := HZ1.out.1 6 _ rfl
  have z7 := HZ1.out.1 7 _ rfl
  have zf := HZ1.out.2.1
  have zl := HZ1.out.2.2
  clear hb1 HPC
  go_wp2_with fail
  refine bodyPost_ret (v := .tuple #[zeroPcl, .int .i64 9]) (by simp [results, Tryz.results42, go_sem, z0, z1, z2, z3, z4, z5, z6, z7, zl, zeroPcl]) rfl ⟨by rw [zeroPcl], ?_⟩
  have hh := HF.out.trans' HB1.out
  refine Below.alloc ?_ ?_ _
  · iterate 8 (refine below_set ?_ (Nat.le_refl _))
    exact hh.below (fun _ h => h.elim) (Nat.le_refl _)
  · simp
    have := hh.size
    omega
/-- the actor lies in a parcel, the node is without it -/
def NTakePost (X M : Nat → Prop) (base T p : Nat) (P : Int → Nat) (N : NdS) (ref : Int) (q : PclS) (w : World) (e : Ending) (w' : World) : Prop :=
  ∃ cs X' M', e = .returned (.tuple #[.agg cs.toArray, .int .i64 0]) ∧ PclAt w' (fun b => w.heap.size ≤ b ∧ b < w'.heap.size ∧ ¬ M' b) q cs ∧ Gr X M w X' M' w' ∧ NodeAt w' X' M' base T p P (dropN N ref)
theorem take_end {w W1 w1 W2 W9 w3 : World} {X M X3 M3 : Nat → Prop} {base T p : Nat} {P : Int → Nat} {N N3 : NdS} {q : PclS} {cs : List Value} (h : NodeAt w X M base T p P N) (hW1 : w.heap.size < W1.heap.size) (hp : PclAt w1 (fun b => W1.heap.size ≤ b ∧ b < w1.heap.size) q cs) (h12 : Fr (fun _ => False) w1 W2) (h02 : Fr (fun _ => False) w W2) (hs : W1.heap.size ≤ w1.heap.size) (h29 : Fr (fun _ => False) W2 W9)
    (hg : Gr (XW X w W2) M W9 X3 M3 w3) (hn : NodeAt w3 X3 M3 base T p P N3) (wE : World) (hE : Fr (fun k => k = w.heap.size) w3 wE) :
    PclAt wE (fun b => w.heap.size ≤ b ∧ b < wE.heap.size ∧ ¬ M3 b) q cs ∧ Gr X M w X3 M3 wE ∧ NodeAt wE X3 M3 base T p P N3 := by
  have hml : ∀ k, M k → k < w.heap.size := fun k hk => h.xlt k (h.2.2.1 k hk).1
  have e1 := h12.size
  have e2 := h29.size
  have e3 := hg.fr.size
  have e4 := hE.size
  have hlow : base < w.heap.size := by have := h.pM.2.2; have := h.p_lt; omega
  have hx0 : X3 w.heap.size := hg.up _ (.inr ⟨Nat.le_refl _, by omega⟩)
  have hm3 : ∀ k, M3 k → M k ∨ W9.heap.size ≤ k := hg.ms
  have hfM : Fr M w w3 := ((h02.trans' h29).weak (S2 := M) (fun _ h => h.elim)).trans' hg.fr
  refine ⟨?_, ⟨hfM.trans hE (fun k hk => .inr (by omega)), fun k hk => hg.up k (.inl hk), fun k hk => ?_, fun k hk => ?_⟩, ?_⟩
  · refine PclAt.fr (D := fun k => M k ∨ k = w.heap.size) hp ((h12.trans' h29 |>.weak (fun _ h => h.elim)).trans' ((hg.fr.weak (fun k hk => .inl hk)).trans' (hE.weak (fun k hk => .inr hk)))) (fun k hk hd => ?_) (fun k hk => ⟨by omega, by omega, fun hm => ?_⟩)
    · rcases hd with hd | hd
      · have := hml k hd; omega
      · omega
    · rcases hm3 k hm with hd | hd
      · have := hml k hd; omega
      · omega
  · rcases hg.xs k hk with (hx | hx) | hx
    · exact .inl hx
    · exact .inr hx.1
    · exact .inr (by omega)
  · rcases hm3 k hk with hx | hx
    · exact .inl hx
    · exact .inr (by omega)
  · refine hn.fr hE (fun k hk => ?_) (fun _ h => h) (fun _ h => .inl h) (fun k hk e => ?_)
    · rw [hk]
      exact ⟨hx0, by omega⟩
    · rcases hm3 k hk with hx | hx
      · have := hml k hx; omega
      · omega
set_option maxRecDepth 100000 in
set_option maxHeartbeats 8000000 in
theorem take_any {w : World} {X M : Nat → Prop} {base T p : Nat} {P : Int → Nat} {N : NdS} (h : NodeAt w X M base T p P N) {ref : Int} {a : ActS} (ha : N.find ref = some a) (hw : a.waits = true) (hwr : Wf ref) :
    Calls Tryz.prog 42 #[.pointer (some ⟨p, 0, none⟩), .int .i64 ref] w (NTakePost X M base T p P N ref (pclN N a) w) := by
  have hhas : N.has ref = true := by unfold NdS.has; rw [ha]; rfl
  obtain ⟨W, hW⟩ : ∃ W, W = w.alloc (.cells #[.int .i64 0, .string ⟨#[]⟩, .slice none 0 0, .slice none 0 0, .slice none 0 0, .int .i64 0, .slice none 0 0, .slice none 0 0] 82) := ⟨_, rfl⟩
  have hfW : Fr (fun _ => False) w W := by rw [hW]; exact (Fr.refl _ _).alloc _
  have HZ := Lib.hid (show CellsN W w.heap.size [.int .i64 0, .string ⟨#[]⟩, .slice none 0 0, .slice none 0 0, .slice none 0 0, .int .i64 0, .slice none 0 0, .slice none 0 0] by rw [hW]; exact cellsN_new w _ _)
  have HN := Lib.hid (h.new hfW (fun _ h => h))
  have HN0 := Lib.hid h
  have HWR := Lib.hid hwr
  have HML := Lib.hid (show ∀ k, M k → k < w.heap.size from fun k hk => h.xlt k (h.2.2.1 k hk).1)
  have HPC := Lib.hid (parcel_any HN.out ha hw)
  have HF := Lib.hid hfW
  have HWW := Lib.hid hW
  have HHAS := Lib.hid hhas
  clear h ha hw hW hfW hhas hwr
  go_enter Tryz.func42, Tryz.ntmps42
  go_wp2_with fail
  rw [← HWW.out]
  refine HPC.out.mono ?_
  rintro e w1 ⟨A2, c2, A4, c4, C, A6, c6, A7, c7, rfl, h1, h2, h3, h4, h5, h6, hb1⟩
  have HPA := Lib.hid (pclAt_of h1 h2 h3 h4 h5 h6)
  have HB1 := Lib.hid (Fr.of_below (S := fun _ => False) hb1)
  have HZ1 := Lib.hid (HZ.out.fr (D := fun _ => False) (Fr.of_below hb1) (fun h => h))
  clear h3 h4 h5 h6 hb1 HPC h1 h2
  generalize pclN N a = q at *
  obtain ⟨W2, hW2⟩ : ∃ W2, W2 = w1.alloc (.cells #[.int .i64 q.ref, .string q.nm, .slice A2 2 c2, .slice none 0 0, .slice A4 q.box.length c4, .int .i64 q.ticks, .slice A6 q.ws.length c6, .slice A7 q.ls.length c7] 82) := ⟨_, rfl⟩
  have hf2 : Fr (fun _ => False) w1 W2 := by rw [hW2]; exact (Fr.refl _ _).alloc _
  have HQ2 := Lib.hid (show CellsN W2 w1.heap.size [.int .i64 q.ref, .string q.nm, .slice A2 2 c2, .slice none 0 0, .slice A4 q.box.length c4, .int .i64 q.ticks, .slice A6 q.ws.length c6, .slice A7 q.ls.length c7] by rw [hW2]; exact cellsN_new w1 _ _)
  have HZ2 := Lib.hid (HZ1.out.fr (D := fun _ => False) hf2 (fun h => h))
  have HFA := Lib.hid ((HF.out.trans' HB1.out).trans' hf2)
  have HN2 := Lib.hid (HN0.out.xw HFA.out)
  have HDR := Lib.hid (fun (W9 : World) (hf : Fr (fun _ => False) W2 W9) => drop_any (HN2.out.new hf (fun _ h => h)) ref HWR.out)
  have hif : (if N.has ref = true then (0 : Int) else 4) = 0 := if_pos HHAS.out
  rw [hif] at HDR
  have HF12 := Lib.hid hf2
  have HW2 := Lib.hid hW2
  have z1' := HQ2.out.1 0 _ rfl
  have q0 := HQ2.out.1 0 _ rfl
  have q1 := HQ2.out.1 1 _ rfl
  have q2 := HQ2.out.1 2 _ rfl
  have q3 := HQ2.out.1 3 _ rfl
  have q4 := HQ2.out.1 4 _ rfl
  have q5 := HQ2.out.1 5 _ rfl
  have q6 := HQ2.out.1 6 _ rfl
  have q7 := HQ2.out.1 7 _ rfl
  have hm1 : ¬ M w1.heap.size := fun h => by
    have := HML.out _ h
    have := HF.out.size
    have := HB1.out.size
    omega
  have hm0 : ¬ M w.heap.size := fun h => by
    have := HML.out _ h
    omega
  have HM1 := Lib.hid hm1
  have HM0 := Lib.hid hm0
  clear hW2 hf2 hif z1' hm1 hm0
  go_wp2_with fail
  rw [← HW2.out]
  go_region_with (first
    | (go_at_call 32; refine (HDR.out _ (by (repeat' first | with_reducible exact Fr.refl _ _ | (with_reducible refine Fr.setEq ?_ _) | (with_reducible refine Fr.setNew ?_ _) | with_reducible refine Fr.alloc ?_ _ | with_reducible refine Fr.drewN ?_ _ | with_reducible refine Fr.drew ?_))).mono ?_; rintro e w3 ⟨rfl, X3, M3, hg3, hn3⟩; have HGF := Lib.hid (((show Fr (fun _ => False) W2 _ by (repeat' first | with_reducible exact Fr.refl _ _ | (with_reducible refine Fr.setEq ?_ _) | (with_reducible refine Fr.setNew ?_ _) | with_reducible refine Fr.alloc ?_ _ | with_reducible refine Fr.drewN ?_ _ | with_reducible refine Fr.drew ?_)).weak (S2 := M) (fun _ h => h.elim)).trans' hg3.fr); have HTE := Lib.hid (fun wE hE => take_end HN0.out HZ.out.2.2 HPA.out HF12.out HFA.out HB1.out.size (by (repeat' first | with_reducible exact Fr.refl _ _ | (with_reducible refine Fr.setEq ?_ _) | (with_reducible refine Fr.setNew ?_ _) | with_reducible refine Fr.alloc ?_ _ | with_reducible refine Fr.drewN ?_ _ | with_reducible refine Fr.drew ?_)) hg3 hn3 wE hE); have u0 := HGF.out.cell q0 HM1.out; have u1 := HGF.out.cell q1 HM1.out; have u2 := HGF.out.cell q2 HM1.out; have u3 := HGF.out.cell q3 HM1.out; have u4 := HGF.out.cell q4 HM1.out; have u5 := HGF.out.cell q5 HM1.out; have u6 := HGF.out.cell q6 HM1.out; have u7 := HGF.out.cell q7 HM1.out; have HZ3 := Lib.hid (HZ2.out.fr HGF.out HM0.out); have z0 := HZ3.out.1 0 _ rfl; have z1 := HZ3.out.1 1 _ rfl; have z2 := HZ3.out.1 2 _ rfl; have z3 := HZ3.out.1 3 _ rfl; have z4 := HZ3.out.1 4 _ rfl; have z5 := HZ3.out.1 5 _ rfl; have z6 := HZ3.out.1 6 _ rfl; have z7 := HZ3.out.1 7 _ rfl; have zf := HZ3.out.2.1; clear hg3 hn3))
  all_goals
    go_wp2_with fail
    refine bodyPost_ret (v := .tuple #[.agg #[.int .i64 q.ref, .string q.nm, .slice A2 2 c2, .slice none 0 0, .slice A4 q.box.length c4, .int .i64 q.ticks, .slice A6 q.ws.length c6, .slice A7 q.ls.length c7], .int .i64 0]) (by simp [results, Tryz.results42, go_sem, z0, z1, z2, z3, z4, z5, z6, z7]) rfl ⟨_, X3, M3, rfl, HTE.out _ ?_⟩
    iterate 8 (refine Fr.setAt ?_ _)
    exact Fr.refl _ _
end Go.Proofs.YtjjfglbcikaicaaGreat
namespace Go.Proofs.YtjjfglbcikaicaaGreat
open Go.RowKit Go.Maps
set_option linter.unusedVariables false
set_option linter.unusedSimpArgs false
/-- the actor that comes out of a parcel -/
def bringA (q : PclS) (l : List Stp) (pos : Nat) (kid : Int) : ActS := ⟨q.ref, backD q.nm l pos kid q.ref, q.box, 0, true, q.ticks, fun x => x == kid⟩
def bringN (N : NdS) (q : PclS) (l : List Stp) (pos : Nat) (kid : Int) : NdS :=
  { N with acts := insA (bringA q l pos kid) N.acts, rows := q.ls.foldl (fun r x => linkL r q.ref x) (q.ws.foldl (fun r x => watchL r x q.ref) (addR N.rows q.ref)) }
/-- a parcel that may be brought to the node -/
structure BrOk (N : NdS) (q : PclS) (l : List Stp) (b : UInt8) (pos : Nat) (kid : Int) : Prop where
  nm : q.nm = ⟨#[b]⟩
  st : q.st = fun i => if i = 0 then vLeaf 2 pos else vLeaf 6 kid
  mkn : makeN N.scr ⟨#[b]⟩ = some l
  ps : pos < l.length ∧ (nthS l pos).kind = 6
  kd : 0 ≤ kid ∧ Wf kid
  kb : -9223372036854775808 ≤ kid ∧ kid < 9223372036854775808
  pw : pos ≤ 1000000
  sw : StpsWf l
  rf : 1 ≤ q.ref ∧ Wf q.ref
  tk : -1 ≤ q.ticks
  ws : q.ws.length ≤ 100 ∧ ∀ x, x ∈ q.ws → Wf x
  ls : q.ls.length ≤ 100 ∧ ∀ x, x ∈ q.ls → Wf x
  bx : BoxOk q.box 0
  no : N.has q.ref = false
  ln : N.acts.length < 60
theorem PclAt.parts {w : World} {S : Nat → Prop} {q : PclS} {ref t : Int} {nm : ByteArray} {A2 A4 A6 A7 : Option Addr} {n4 n6 n7 c2 c4 c6 c7 : Nat} (h : PclAt w S q [.int .i64 ref, .string nm, .slice A2 2 c2, .slice none 0 0, .slice A4 n4 c4, .int .i64 t, .slice A6 n6 c6, .slice A7 n7 c7]) :
    RdV w S A2 2 q.st ∧ RdL w S A4 q.box.length (nthL q.box) ∧ NumIn w S (.slice A6 n6 c6) q.ws ∧ NumIn w S (.slice A7 n7 c7) q.ls ∧ q.box.length ≤ c4 ∧ c4 ≤ 9223372036854775807 := by
  obtain ⟨B2, d2, B4, d4, v6, v7, e, h1, h2, h3, h4, h5, h6, h7, h8⟩ := h
  injection e with _ e
  injection e with _ e
  injection e with e2 e
  injection e with _ e
  injection e with e4 e
  injection e with _ e
  injection e with e6 e
  injection e with e7 _
  injection e2 with e2 _ _
  injection e4 with e4 _ e5
  subst e2 e4 e5 e6 e7
  exact ⟨h5, h6, h7, h8, h3, h4⟩
def bwN (N : NdS) (q : PclS) (a : ActS) (k : Nat) : NdS := { N with acts := insA a N.acts, rows := (q.ws.take k).foldl (fun r x => watchL r x q.ref) (addR N.rows q.ref) }
theorem bwN_up (N : NdS) (q : PclS) (a : ActS) {k : Nat} (hk : k < q.ws.length) : bwN N q a (k + 1) = { bwN N q a k with rows := watchL (bwN N q a k).rows (lst q.ws k) q.ref } := by
  unfold bwN
  have e : q.ws.take (k + 1) = q.ws.take k ++ [lst q.ws k] := by
    rw [List.take_add_one, List.getElem?_eq_getElem hk]
    simp [lst, hk]
  rw [e, List.foldl_append]
  rfl
def blN (N : NdS) (q : PclS) (a : ActS) (k : Nat) : NdS := { N with acts := insA a N.acts, rows := (q.ls.take k).foldl (fun r x => linkL r q.ref x) (q.ws.foldl (fun r x => watchL r x q.ref) (addR N.rows q.ref)) }
theorem blN_up (N : NdS) (q : PclS) (a : ActS) {k : Nat} (hk : k < q.ls.length) : blN N q a (k + 1) = { blN N q a k with rows := linkL (blN N q a k).rows q.ref (lst q.ls k) } := by
  unfold blN
  have e : q.ls.take (k + 1) = q.ls.take k ++ [lst q.ls k] := by
    rw [List.take_add_one, List.getElem?_eq_getElem hk]
    simp [lst, hk]
  rw [e, List.foldl_append]
  rfl
theorem bwN_all (N : NdS) (q : PclS) (a : ActS) : bwN N q a q.ws.length = blN N q a 0 := by
  unfold bwN blN
  rw [List.take_length]
  rfl
/-- a node that has grown from a world on -/
def BrAt (X7 M7 : Nat → Prop) (w7 : World) (base T p : Nat) (P : Int → Nat) (N : NdS) (w : World) : Prop := ∃ X2 M2, Gr X7 M7 w7 X2 M2 w ∧ NodeAt w X2 M2 base T p P N
/-- a call of change that leads to Q -/
def ChCall (p : Nat) (A : Option Addr) (n c : Nat) (y : Int) (Q : World → Prop) (w : World) : Prop := ∀ W, Fr (fun _ => False) w W → Calls Tryz.prog 60 #[.pointer (some ⟨p, 0, none⟩), .slice A n c, .int .i64 y] W fun e w' => e = .returned (.tuple #[]) ∧ Q w'
theorem BrAt.change {X7 M7 : Nat → Prop} {w7 wo w8 : World} {base T p : Nat} {P : Int → Nat} {N : NdS} {rows : List Li.LR} {A : Option Addr} {n c : Nat} {y : Int} {X2 M2 : Nat → Prop} (hg : Gr X7 M7 w7 X2 M2 wo) (hn : NodeAt wo X2 M2 base T p P N) (hf : Fr (fun _ => False) wo w8) (hl : (y = 0 ∧ RowsAt w8 X2 (.slice A n c) rows) ∨ (y ≠ 0 ∧ rows = N.rows)) (hok : RowsOk rows) :
    ChCall p A n c y (BrAt X7 M7 w7 base T p P { N with rows := rows }) w8 := fun W hW => by
  have hl2 : (y = 0 ∧ RowsAt W X2 (.slice A n c) rows) ∨ (y ≠ 0 ∧ rows = N.rows) := hl.imp (fun h => ⟨h.1, h.2.new hW⟩) id
  refine (change_nd (hn.new (hf.trans' hW) (fun _ h => h)) hl2 hok).mono ?_
  rintro e w' ⟨rfl, X3, M3, hg3, hn3⟩
  exact ⟨rfl, X3, M3, hg.trans ((Gr.new (hf.trans' hW)).trans hg3), hn3⟩
theorem BrAt.watch {X7 M7 : Nat → Prop} {w7 wo : World} {base T p : Nat} {P : Int → Nat} {N : NdS} (h : BrAt X7 M7 w7 base T p P N wo) (x ref : Int) (hx : Wf x) :
    p < wo.heap.size ∧ ∃ A n c, wo.cell? ⟨p, 4, none⟩ = some (.slice A n c) ∧ ∀ W, Fr (fun _ => False) wo W → Calls Tryz.prog 74 #[.slice A n c, .int .i64 x, .int .i64 ref] W fun e w' => ∃ A n c y, e = .returned (.tuple #[.slice A n c, .int .i64 y]) ∧ ChCall p A n c y (BrAt X7 M7 w7 base T p P { N with rows := watchL N.rows x ref }) w' := by
  obtain ⟨X2, M2, hg, hn⟩ := h
  obtain ⟨A, c, d4, hr⟩ := hn.rows
  refine ⟨hn.p_lt, A, _, c, d4, fun W hW => ?_⟩
  refine (lwatch_any X2 _ N.rows x ref W (hr.new hW) hn.ok.rows.ok (fun k hk => Nat.lt_of_lt_of_le (hn.xlt k hk) hW.size)).mono ?_
  rintro e w' ⟨A1, n1, c1, y, rfl, hb, hl⟩
  exact ⟨A1, n1, c1, y, rfl, BrAt.change hg hn (hW.trans' (Fr.of_below hb)) hl (hn.ok.rows.watch hx)⟩
theorem BrAt.link {X7 M7 : Nat → Prop} {w7 wo : World} {base T p : Nat} {P : Int → Nat} {N : NdS} (h : BrAt X7 M7 w7 base T p P N wo) (x ref : Int) (hx : Wf x) :
    p < wo.heap.size ∧ ∃ A n c, wo.cell? ⟨p, 4, none⟩ = some (.slice A n c) ∧ ∀ W, Fr (fun _ => False) wo W → Calls Tryz.prog 75 #[.slice A n c, .int .i64 ref, .int .i64 x] W fun e w' => ∃ A n c y, e = .returned (.tuple #[.slice A n c, .int .i64 y]) ∧ ChCall p A n c y (BrAt X7 M7 w7 base T p P { N with rows := linkL N.rows ref x }) w' := by
  obtain ⟨X2, M2, hg, hn⟩ := h
  obtain ⟨A, c, d4, hr⟩ := hn.rows
  refine ⟨hn.p_lt, A, _, c, d4, fun W hW => ?_⟩
  refine (llink_any X2 _ N.rows ref x W (hr.new hW) hn.ok.rows.ok (fun k hk => Nat.lt_of_lt_of_le (hn.xlt k hk) hW.size)).mono ?_
  rintro e w' ⟨A1, n1, c1, y, rfl, hb, hl⟩
  exact ⟨A1, n1, c1, y, rfl, BrAt.change hg hn (hW.trans' (Fr.of_below hb)) hl (hn.ok.rows.link hx)⟩
theorem bring_gr {w w3 w6 w7 W9 : World} {X M X6 M6 X7 M7 X9 M9 : Nat → Prop} {q4 : Nat} (hf3 : Fr (fun k => k = w.heap.size) w w3) (hf36 : Fr (fun k => k = q4) w3 w6) (g7 : Gr X6 M6 w6 X7 M7 w7) (g9 : Gr X7 M7 w7 X9 M9 W9) (hx : ∀ k, X k → X6 k) (hx6 : ∀ k, X6 k → X k ∨ w.heap.size ≤ k) (hm6 : ∀ k, M6 k → M k ∨ w.heap.size ≤ k) (h4 : w.heap.size ≤ q4) : Gr X M w X9 M9 W9 := by
  have e1 := hf3.size
  have e2 := hf36.size
  have e3 := g7.fr.size
  have e4 := g9.fr.size
  refine ⟨?_, fun k hk => g9.up k (g7.up k (hx k hk)), fun k hk => ?_, fun k hk => ?_⟩
  · refine ((((Fr.refl M w).trans hf3 (fun k hk => .inr (Nat.le_of_eq hk.symm))).trans hf36 (fun k hk => .inr (by omega))).trans g7.fr hm6).trans g9.fr (fun k hk => ?_)
    rcases g7.ms k hk with h | h
    · exact hm6 k h
    · exact .inr (by omega)
  · rcases g9.xs k hk with h | h
    · rcases g7.xs k h with h | h
      · exact hx6 k h
      · exact .inr (by omega)
    · exact .inr (by omega)
  · rcases g9.ms k hk with h | h
    · rcases g7.ms k h with h | h
      · exact hm6 k h
      · exact .inr (by omega)
    · exact .inr (by omega)
theorem lst_wf {l : List Int} (h : ∀ x, x ∈ l → Wf x) {k : Nat} (hk : k < l.length) : Wf (lst l k) := by
  have e : lst l k = l[k] := by simp [lst, hk]
  rw [e]
  exact h _ (List.getElem_mem hk)
set_option maxRecDepth 100000 in
set_option maxHeartbeats 8000000 in
theorem bring_any {w : World} {X M : Nat → Prop} {base T p : Nat} {P : Int → Nat} {N : NdS} (h : NodeAt w X M base T p P N) (q : PclS) (cs : List Value) (S : Nat → Prop) (H : PclAt w S q cs) {l : List Stp} {b : UInt8} {pos : Nat} {kid : Int} (ok : BrOk N q l b pos kid) (hT : pot N + 201 ≤ T) (hT2 : T ≤ 1000000000000) :
    Calls Tryz.prog 43 #[.pointer (some ⟨p, 0, none⟩), .agg cs.toArray] w fun e w' => e = .returned (.int .i64 0) ∧ ∃ P' X' M', Gr X M w X' M' w' ∧ NodeAt w' X' M' base T p P' (bringN N q l pos kid) := by
  obtain ⟨A2, c2, A4, c4, v6, v7, rfl, h1, h2, h3, h4, h5, h6, h7, h8⟩ := H
  obtain ⟨A6, c6, rfl, i1, i2, hn6, R6⟩ := numIn_rd h7
  obtain ⟨A7, c7, rfl, i3, i4, hn7, R7⟩ := numIn_rd h8
  obtain ⟨W, hW⟩ : ∃ W, W = w.alloc (.cells #[.int .i64 q.ref, .string q.nm, .slice A2 2 c2, .slice none 0 0, .slice A4 q.box.length c4, .int .i64 q.ticks, .slice A6 q.ws.length c6, .slice A7 q.ls.length c7] 82) := ⟨_, rfl⟩
  have hfW : Fr (fun _ => False) w W := by rw [hW]; exact (Fr.refl _ _).alloc _
  have HZ := Lib.hid (show CellsN W w.heap.size [.int .i64 q.ref, .string q.nm, .slice A2 2 c2, .slice none 0 0, .slice A4 q.box.length c4, .int .i64 q.ticks, .slice A6 q.ws.length c6, .slice A7 q.ls.length c7] by rw [hW]; exact cellsN_new w _ _)
  have HPA := Lib.hid (PclAt.fr (S' := S) (⟨A2, c2, A4, c4, _, _, rfl, h1, h2, h3, h4, h5, h6, h7, h8⟩ : PclAt w S q _) hfW (fun _ _ h => h) (fun _ h => h))
  have hbx := ok.bx
  have HPC := Lib.hid (pcopy_any q _ S W HPA.out hbx.1 (fun i hi => by have := (hbx.2.2 _ (nthL_mem hi)).2.2.2.2.2; omega) (fun i hi => by rw [ok.st]; dsimp only; split <;> simp [vLeaf, VT.many, sumTo]) (by have := ok.ws.1; omega) (by have := ok.ls.1; omega))
  have HN0 := Lib.hid h
  have HN := Lib.hid (h.fr (X' := fun k => X k ∨ k = w.heap.size) hfW (fun _ h => h.elim) (fun k hk => .inl hk) (fun k hk => by
    rcases hk with hk | rfl
    · exact .inl hk
    · exact .inr ⟨Nat.le_refl _, HZ.out.2.2⟩) (fun _ _ h => h))
  have HF := Lib.hid hfW
  have HWW := Lib.hid hW
  have HOK := Lib.hid ok
  have HHT := Lib.hid (And.intro hT hT2)
  have z0 := HZ.out.1 0 _ rfl
  have z1 := HZ.out.1 1 _ rfl
  have z2 := HZ.out.1 2 _ rfl
  have z3 := HZ.out.1 3 _ rfl
  have z4 := HZ.out.1 4 _ rfl
  have z5 := HZ.out.1 5 _ rfl
  have z6 := HZ.out.1 6 _ rfl
  have z7 := HZ.out.1 7 _ rfl
  have zf := HZ.out.2.1
  clear h h1 h2 h3 h4 h5 h6 h7 h8 i1 i2 hn6 R6 i3 i4 hn7 R7 hW hfW hbx ok hT hT2
  go_enter Tryz.func43, Tryz.ntmps43
  go_wp2_with fail
  rw [← HWW.out]
  refine HPC.out.mono ?_
  rintro e w1 ⟨B2, d2, B4, d4, C, B6, d6, B7, d7, rfl, g1, g2, g3, g4, g5, g6, hb1⟩
  simp only [id]
  have HB1 := Lib.hid (Fr.of_below (S := fun _ => False) hb1)
  have HPQ := Lib.hid (pclAt_of g1 g2 g3 g4 g5 g6)
  have HZ1 := Lib.hid (HZ.out.fr (D := fun _ => False) (Fr.of_below hb1) (fun h => h))
  clear g1 g2 g3 g4 g5 g6 hb1 HPC z0 z1 z2 z3 z4 z5 z6 z7 zf
  have z0 := HZ1.out.1 0 _ rfl
  have z1 := HZ1.out.1 1 _ rfl
  have z2 := HZ1.out.1 2 _ rfl
  have z3 := HZ1.out.1 3 _ rfl
  have z4 := HZ1.out.1 4 _ rfl
  have z5 := HZ1.out.1 5 _ rfl
  have z6 := HZ1.out.1 6 _ rfl
  have z7 := HZ1.out.1 7 _ rfl
  have zf := HZ1.out.2.1
  have zl := HZ1.out.2.2
  have r1 : decide (q.ref < 1) = false := decide_eq_false (by have := HOK.out.rf.1; omega)
  have r2 : decide (q.ticks < -1) = false := decide_eq_false (by have := HOK.out.tk; omega)
  have r3 : decide ((100 : Int) < (q.ws.length : Int)) = false := decide_eq_false (by have := HOK.out.ws.1; omega)
  have r4 : decide ((100 : Int) < (q.ls.length : Int)) = false := decide_eq_false (by have := HOK.out.ls.1; omega)
  have HCK := Lib.hid (fun (W9 : World) (hf : Fr (fun k => k = w.heap.size) w1 W9) => boxCheck_ok q.box.length d4 B4 0 (nthL q.box) (fun _ => True) W9 (by have := HOK.out.bx.1; omega) (by
    obtain ⟨_, _, _, _, _, _, e, _, _, _, _, _, k4, _⟩ := HPQ.out
    injection e with _ e
    injection e with _ e
    injection e with _ e
    injection e with _ e
    injection e with e _
    injection e with e _ _
    subst e
    exact k4.frame hf.size (fun k hk hlt => ⟨trivial, hf.block k hlt (fun e => by have := hk.1; have := HZ.out.2.2; omega)⟩)) ⟨HOK.out.bx.1, by omega, by omega, fun i hi => (HOK.out.bx.2.2 _ (nthL_mem hi)).1⟩)
  obtain ⟨W2, hW2⟩ : ∃ W2, W2 = ((((((((w1.setCell ⟨w.heap.size, 0, none⟩ (.int .i64 q.ref)).setCell ⟨w.heap.size, 1, none⟩ (.string q.nm)).setCell ⟨w.heap.size, 2, none⟩ (.slice B2 2 d2)).setCell ⟨w.heap.size, 3, none⟩ (.slice none 0 0)).setCell ⟨w.heap.size, 4, none⟩ (.slice B4 q.box.length d4)).setCell ⟨w.heap.size, 5, none⟩ (.int .i64 q.ticks)).setCell ⟨w.heap.size, 6, none⟩ (.slice B6 q.ws.length d6)).setCell ⟨w.heap.size, 7, none⟩ (.slice B7 q.ls.length d7)).alloc (.cells #[.slice B4 q.box.length d4, .int .i64 0] 110) := ⟨_, rfl⟩
  have hf2 : Fr (fun k => k = w.heap.size) w1 W2 := by
    rw [hW2]
    refine Fr.alloc ?_ _
    iterate 8 (refine Fr.setAt ?_ _)
    exact Fr.refl _ _
  have HQ2 := Lib.hid (show CellsN W2 w.heap.size [.int .i64 q.ref, .string q.nm, .slice B2 2 d2, .slice none 0 0, .slice B4 q.box.length d4, .int .i64 q.ticks, .slice B6 q.ws.length d6, .slice B7 q.ls.length d7] by
    rw [hW2]
    exact ((((((((HZ1.out.set _).set _).set _).set _).set _).set _).set _).set _).fr (D := fun _ => False) ((Fr.refl _ _).alloc _) (fun h => h))
  have HX2 := Lib.hid (show CellsN W2 w1.heap.size [.slice B4 q.box.length d4, .int .i64 0] by
    rw [hW2]
    have := cellsN_new ((((((((w1.setCell ⟨w.heap.size, 0, none⟩ (.int .i64 q.ref)).setCell ⟨w.heap.size, 1, none⟩ (.string q.nm)).setCell ⟨w.heap.size, 2, none⟩ (.slice B2 2 d2)).setCell ⟨w.heap.size, 3, none⟩ (.slice none 0 0)).setCell ⟨w.heap.size, 4, none⟩ (.slice B4 q.box.length d4)).setCell ⟨w.heap.size, 5, none⟩ (.int .i64 q.ticks)).setCell ⟨w.heap.size, 6, none⟩ (.slice B6 q.ws.length d6)).setCell ⟨w.heap.size, 7, none⟩ (.slice B7 q.ls.length d7)) [.slice B4 q.box.length d4, .int .i64 0] 110
    simpa using this)
  have HF2 := Lib.hid hf2
  have HW2 := Lib.hid hW2
  go_wp2_with fail
  rw [← HW2.out]
  refine (HCK.out _ HF2.out).mono ?_
  rintro e w3 ⟨rfl, hb3⟩
  have hf3 := Fr.of_below (S := fun _ => False) hb3
  have HF3 := Lib.hid (((HF.out.trans' HB1.out).weak (S2 := fun k => k = w.heap.size) (fun _ h => h.elim)).trans' (HF2.out.trans' (hf3.weak (fun _ h => h.elim))))
  have HQ3 := Lib.hid (HQ2.out.fr hf3 (fun h => h))
  have HX3 := Lib.hid (HX2.out.fr hf3 (fun h => h))
  have HP3 := Lib.hid (HPQ.out.fr (S' := fun k => W.heap.size ≤ k ∧ k < w1.heap.size) (HF2.out.trans' (hf3.weak (fun _ h => h.elim))) (fun k hk e => by have := hk.1; have := HZ.out.2.2; omega) (fun _ h => h))
  have hpl := HN0.out.p_lt
  have hlb : base < w.heap.size := by have := HN0.out.pM.2.2; omega
  have hw1 := HZ.out.2.2
  have hfW3 : Fr (fun k => k = w.heap.size) W w3 := (HB1.out.weak (S2 := fun k => k = w.heap.size) (fun _ h => h.elim)).trans' (HF2.out.trans' (hf3.weak (fun _ h => h.elim)))
  have HN3 := Lib.hid (HN.out.fr (X' := fun k => X k ∨ k = w.heap.size) hfW3 (fun k hk => ⟨.inr hk, by omega⟩) (fun _ h => h) (fun k hk => .inl hk) (fun k hk e => by have := HN0.out.xlt k (HN0.out.2.2.1 k hk).1; omega))
  clear HCK HQ2 HX2 hf2 hW2 HW2 hb3 hf3 z0 z1 z2 z3 z4 z5 z6 z7 zf zl HZ1 HN
  obtain ⟨mb, c3, hmb, -, -, hlk2⟩ := HN3.out.look
  have l1 := hlk2 q.ref HOK.out.rf.2 HOK.out.no w3.drew ((Fr.refl _ _).drew)
  have l0 := hlk2 q.ref HOK.out.rf.2 HOK.out.no w3 (Fr.refl _ _)
  have hlen1 : ∀ ty, (Builtin.len_ #[99] ty #[.map (some mb)]).run Tryz.prog w3.drew = .ok (.int .i64 (N.acts.length : Int)) w3.drew := fun ty => HN3.out.mlen c3 ty w3.drew ((Fr.refl _ _).drew)
  obtain ⟨As, cs', m2, hscr⟩ : ∃ A c, w3.cell? ⟨p, 2, none⟩ = some (.iface _ (.slice A N.scr.length c)) ∧ ScrsAt w3 base A c N.scr := by
    obtain ⟨_, _, _, _, _, _, _, _, h4, _⟩ := HN3.out
    exact h4.c2
  have r5 : decide ((60 : Int) ≤ (N.acts.length : Int)) = false := decide_eq_false (by have := HOK.out.ln; omega)
  have z0 := HQ3.out.1 0 _ rfl
  have z1 := HQ3.out.1 1 _ rfl
  have z3 := HQ3.out.1 5 _ rfl
  have z6 := HQ3.out.1 6 _ rfl
  have z7 := HQ3.out.1 7 _ rfl
  have x0 := HX3.out.1 0 _ rfl
  have x1 := HX3.out.1 1 _ rfl
  have zl := HQ3.out.2.2
  have xl := HX3.out.2.2
  have hp3 : p < w3.heap.size := HN3.out.p_lt
  have HSC := Lib.hid hscr
  have HPP := Lib.hid HP3.out.parts
  have z2 := HQ3.out.1 2 _ rfl
  have z2b := HQ3.out.1 3 _ rfl
  have HBK := Lib.hid (fun (W9 : World) (hf : Fr (fun _ => False) w3 W9) => show Calls Tryz.prog 72 #[.iface 25 (.slice As N.scr.length cs'), .agg #[.string q.nm, .slice B2 2 d2, .slice none 0 0], .int .i64 q.ref] W9 (BackPost (fun k => X k ∨ k = w.heap.size) N.scr base T (backD q.nm l pos kid q.ref) W9) from by
    rw [HOK.out.nm]
    exact back_any (fun k => X k ∨ k = w.heap.size) N.scr base T cs' As b q.ref W9 (HSC.out.fr hf (fun _ h => h.elim)) (by have := hf.size; omega) (fun k hk => Nat.lt_of_lt_of_le (HN3.out.xlt k hk) hf.size) HOK.out.mkn B2 d2 (fun _ => True) pos kid HOK.out.kd.1 (by have := HPP.out.1; rw [HOK.out.st] at this; exact this.frame hf.size (fun k hk hlt => ⟨trivial, hf.block k hlt (fun h => h)⟩)) HOK.out.ps.1 HOK.out.ps.2)
  clear hlk2 hscr hfW3
  go_wp2_with fail
  go_region
  go_wp2_with fail
  go_cut [6, 7] (fun v6 v7 wx => v7 = .int .i64 0 ∧ ∃ db rb, v6 = .pointer (some ⟨db, 0, none⟩) ∧ Hid (w3.heap.size ≤ rb ∧ rb < db ∧ db < wx.heap.size) ∧ Hid (Fr (fun _ => False) w3 wx) ∧ Hid (DiaAt wx (fun k => (X k ∨ k = w.heap.size) ∨ k = db ∨ k = rb) base T db rb none (backD q.nm l pos kid q.ref)))
  case first =>
    go_region_with (first
      | (go_at_call 72; refine (HBK.out _ (by (repeat' first | with_reducible exact Fr.refl _ _ | (with_reducible refine Fr.setEq ?_ _) | (with_reducible refine Fr.setNew ?_ _) | with_reducible refine Fr.alloc ?_ _ | with_reducible refine Fr.drewN ?_ _ | with_reducible refine Fr.drew ?_))).mono ?_; rintro e w4 ⟨-, db, rb, rfl, hrb, hdb, hf4, hd4⟩; have HF4 := Lib.hid (show Fr (fun _ => False) w3 w4 from (show Fr (fun _ => False) w3 _ by (repeat' first | with_reducible exact Fr.refl _ _ | (with_reducible refine Fr.setEq ?_ _) | (with_reducible refine Fr.setNew ?_ _) | with_reducible refine Fr.alloc ?_ _ | with_reducible refine Fr.drewN ?_ _ | with_reducible refine Fr.drew ?_)).trans' hf4); have HD4 := Lib.hid hd4; have HLT := Lib.hid (show w3.heap.size ≤ rb ∧ rb < db ∧ db < w4.heap.size from ⟨Nat.le_trans (show Fr (fun _ => False) w3 _ by (repeat' first | with_reducible exact Fr.refl _ _ | (with_reducible refine Fr.setEq ?_ _) | (with_reducible refine Fr.setNew ?_ _) | with_reducible refine Fr.alloc ?_ _ | with_reducible refine Fr.drewN ?_ _ | with_reducible refine Fr.drew ?_)).size hrb, hdb, hd4.lt.1⟩); clear hf4 hd4 hrb hdb))
    all_goals
      go_wp2_with fail
      go_meet
      exact ⟨rfl, db, rb, rfl, HLT, HF4, HD4⟩
  case rest =>
    obtain ⟨rfl, db, rb, rfl, HLT, HF4, HD4⟩ := hcut
    generalize wc = w4 at *
    clear HBK l0 l1 hlen1 c3 m2
    have z0 := HF4.out.cell z0 (fun h => h)
    have z1 := HF4.out.cell z1 (fun h => h)
    have z2 := HF4.out.cell z2 (fun h => h)
    have z2b := HF4.out.cell z2b (fun h => h)
    have z3 := HF4.out.cell z3 (fun h => h)
    have z6 := HF4.out.cell z6 (fun h => h)
    have z7 := HF4.out.cell z7 (fun h => h)
    have x0 := HF4.out.cell x0 (fun h => h)
    have x1 := HF4.out.cell x1 (fun h => h)
    have zl := Nat.lt_of_lt_of_le zl HF4.out.size
    have xl := Nat.lt_of_lt_of_le xl HF4.out.size
    have hmk := mkRefs
    have hF4 := HF4.out
    obtain ⟨t1, t2, t3⟩ := HLT.out
    have hw3 : w1.heap.size < w3.heap.size := HX3.out.2.2
    have hw1' : w.heap.size < W.heap.size := HZ.out.2.2
    have hWw1 := HB1.out.size
    obtain ⟨W5, hW5⟩ : ∃ W5, W5 = (w4.alloc (.map #[] 0)).alloc (.cells #[.pointer (some ⟨db, 0, none⟩), .int .i64 q.ref, .slice B4 q.box.length d4, .int .i64 0, .bool true, .int .i64 q.ticks, .map (some w4.heap.size)] 112) := ⟨_, rfl⟩
    have hf5 : Fr (fun _ => False) w4 W5 := by rw [hW5]; exact ((Fr.refl _ _).alloc _).alloc _
    have hz5 : W5.heap.size = w4.heap.size + 2 := by rw [hW5]; simp
    have HAC := Lib.hid (show CellsN W5 (w4.heap.size + 1) [.pointer (some ⟨db, 0, none⟩), .int .i64 q.ref, .slice B4 q.box.length d4, .int .i64 0, .bool true, .int .i64 q.ticks, .map (some w4.heap.size)] by rw [hW5]; simpa using cellsN_new (w4.alloc (.map #[] 0)) [.pointer (some ⟨db, 0, none⟩), .int .i64 q.ref, .slice B4 q.box.length d4, .int .i64 0, .bool true, .int .i64 q.ticks, .map (some w4.heap.size)] 112)
    have HMP := Lib.hid (show OwnM W5 w4.heap.size 0 (knG fun _ => false) by
      rw [hW5]
      exact ((OwnM.made w4).fr (S := fun _ => False) ((Fr.refl _ _).alloc _) (fun h => h)).congr (fun x _ => rfl))
    have HN5 := Lib.hid (HN3.out.fr (X' := fun k => (X k ∨ k = w.heap.size) ∨ k = db ∨ k = rb ∨ k = w4.heap.size ∨ k = w4.heap.size + 1) (hF4.trans' hf5) (fun _ h => h.elim) (fun k hk => .inl hk) (fun k hk => by
      rcases hk with hk | rfl | rfl | rfl | rfl
      · exact .inl hk
      · exact .inr ⟨by omega, by omega⟩
      · exact .inr ⟨by omega, by omega⟩
      · exact .inr ⟨hF4.size, by omega⟩
      · exact .inr ⟨by have := hF4.size; omega, by omega⟩) (fun _ _ h => h))
    have HD5 := Lib.hid (HD4.out.fr (X' := fun k => (X k ∨ k = w.heap.size) ∨ k = db ∨ k = rb ∨ k = w4.heap.size ∨ k = w4.heap.size + 1) hf5 (fun _ h => h.elim) (fun k hk => by
      rcases hk with hk | rfl | rfl | rfl | rfl
      · exact .inl (.inl hk)
      · exact .inl (.inr (.inl rfl))
      · exact .inl (.inr (.inr rfl))
      · exact .inr (Nat.le_refl _)
      · exact .inr (by omega)) (fun _ h => h.elim) (Nat.le_refl _) (fun h => h) (fun h => h) (fun k hk => by cases hk))
    have HAS := Lib.hid (fun (W9 : World) (hf : Fr (fun _ => False) W5 W9) => addSaved_any q.nm 2 d2 B2 q.st (fun k => k < w3.heap.size) w4.heap.size 0 (fun _ => false) W9 (HPP.out.1.frame (Nat.le_trans hF4.size (Nat.le_trans hf5.size hf.size)) (fun k hk hlt => ⟨hlt, ((hF4.trans' hf5).trans' hf).block k hlt (fun h => h)⟩)) (fun k hk e => by have h1 : k < w3.heap.size := hk; have := hF4.size; omega) (fun i hi => by
      rw [HOK.out.st]
      dsimp only
      have hpw := HOK.out.pw
      split
      · exact ⟨⟨by omega, by omega⟩, fun i hi => by omega⟩
      · exact ⟨HOK.out.kb, fun i hi => by omega⟩) (fun i hi => by rw [HOK.out.st]; dsimp only; split <;> simp [vLeaf, VT.many, sumTo]) (by omega) (HMP.out.fr hf (fun h => h)) (by omega))
    have HW5 := Lib.hid hW5
    have HF5 := Lib.hid hf5
    have HZ5 := Lib.hid hz5
    clear hW5 hz5 HMP
    have z1 := hf5.cell z1 (fun h => h)
    have z2 := hf5.cell z2 (fun h => h)
    have z2b := hf5.cell z2b (fun h => h)
    have z6' := hf5.cell z6 (fun h => h)
    have z7' := hf5.cell z7 (fun h => h)
    have k5 := HAC.out.1 6 _ rfl
    have zl5 := Nat.lt_of_lt_of_le zl hf5.size
    have al5 := HAC.out.2.2
    clear hf5
    go_wp2_with fail
    rw [← HW5.out]
    go_cut [] (fun wx => ∃ n' : Nat, n' ≤ 100 ∧ Hid (Fr (fun k => k = w4.heap.size) W5 wx) ∧ Hid (OwnM wx w4.heap.size n' (knG fun x => false || anyV q.st 2 x)))
    case first =>
      go_region_with (first
        | (go_at_call 73; refine (HAS.out _ (by (repeat' first | with_reducible exact Fr.refl _ _ | (with_reducible refine Fr.setEq ?_ _) | (with_reducible refine Fr.setNew ?_ _) | with_reducible refine Fr.alloc ?_ _ | with_reducible refine Fr.drewN ?_ _ | with_reducible refine Fr.drew ?_))).mono ?_; rintro e w6 ⟨rfl, hf6, n', hn', ho6⟩; have HF6 := Lib.hid (((show Fr (fun _ => False) W5 _ by (repeat' first | with_reducible exact Fr.refl _ _ | (with_reducible refine Fr.setEq ?_ _) | (with_reducible refine Fr.setNew ?_ _) | with_reducible refine Fr.alloc ?_ _ | with_reducible refine Fr.drewN ?_ _ | with_reducible refine Fr.drew ?_)).weak (S2 := fun k => k = w4.heap.size) (fun _ h => h.elim)).trans' hf6); have HO6 := Lib.hid ho6; have HN6 := Lib.hid hn'; clear hf6 ho6))
      all_goals
        go_wp2_with fail
        go_meet
        exact ⟨n', by have := HN6.out; omega, HF6, HO6⟩
    case rest =>
      obtain ⟨n', hn', HF6, HO6⟩ := hcut
      generalize wc = w6 at *
      have hz5 := HZ5.out
      have hn3M : ∀ k, M k → k < w.heap.size := fun k hk => HN0.out.xlt k (HN0.out.2.2.1 k hk).1
      have e4 := hF4.size
      have hN6 := HN5.out.fr (X' := fun k => (X k ∨ k = w.heap.size) ∨ k = db ∨ k = rb ∨ k = w4.heap.size ∨ k = w4.heap.size + 1) HF6.out (fun k hk => ⟨.inr (.inr (.inr (.inl hk))), by omega⟩) (fun _ h => h) (fun _ h => .inl h) (fun k hk e => by have := hn3M k hk; omega)
      have hdp := HD5.out.fr (X' := fun k => (X k ∨ k = w.heap.size) ∨ k = db ∨ k = rb ∨ k = w4.heap.size ∨ k = w4.heap.size + 1) HF6.out (fun k hk => .inr (.inr (.inr (.inl hk)))) (fun _ h => .inl h) (fun k hk => by omega) (Nat.le_refl _) (fun e => by omega) (fun e => by omega) (fun k hk => by cases hk)
      have hA6 := HAC.out.fr HF6.out (fun e => by omega)
      have hF36 : Fr (fun k => k = w4.heap.size) w3 w6 := ((hF4.trans' HF5.out).weak (S2 := fun k => k = w4.heap.size) (fun _ h => h.elim)).trans' HF6.out
      have hxw : ∀ k, X k → k < w.heap.size := HN0.out.xlt
      have hA : ActG w6 (fun k => (X k ∨ k = w.heap.size) ∨ k = db ∨ k = rb ∨ k = w4.heap.size ∨ k = w4.heap.size + 1) base T (fun k => k = db ∨ k = rb ∨ k = w4.heap.size ∨ k = w4.heap.size + 1) (w4.heap.size + 1) db rb w4.heap.size none (bringA q l pos kid) := {
        dia := hdp
        a0 := hA6.1 0 _ rfl
        a1 := hA6.1 1 _ rfl
        a2 := ⟨B4, d4, hA6.1 2 _ rfl, HPP.out.2.2.2.2.1, HPP.out.2.2.2.2.2, HPP.out.2.1.frame hF36.size (fun k hk hlt => ⟨fun hx => by
          rcases hx with (hx | hx) | hx | hx | hx | hx
          · have := hxw k hx; omega
          · omega
          · omega
          · omega
          · omega
          · omega, hF36.block k hlt (fun e => by omega)⟩)⟩
        a3 := hA6.1 3 _ rfl
        a4 := hA6.1 4 _ rfl
        a5 := hA6.1 5 _ rfl
        a6 := hA6.1 6 _ rfl
        kn := ⟨n', HO6.out.congr (fun x _ => by
          show knG (fun x => x == kid) x = _
          congr 1
          funext y
          rw [HOK.out.st]
          exact (anyV_top ⟨pos, kid, 0, false, false, false, 0, 0, ⟨#[]⟩⟩ y).symm), by have := HHT.out.1; omega⟩
        fz := hA6.2.1
        mine := ⟨.inr (.inr (.inr rfl)), .inl rfl, .inr (.inl rfl), .inr (.inr (.inl rfl)), fun k hk => by cases hk⟩
        ap := ⟨by omega, by omega, by omega, by omega, by omega, fun k hk => by cases hk⟩
        lbp := ⟨by omega, by omega⟩ }
      have hact : ActOk (bringA q l pos kid) := ⟨HOK.out.bx, HOK.out.rf.2, HOK.out.kd.2, rfl, HOK.out.sw, (fun _ => rfl), (by show Wf (max (-1) (min (nthS l pos).b 9)); exact Wf.of (by omega) (by omega)), (fun e => by cases e), (fun _ => rfl)⟩
      have HCALL := Lib.hid (nadd_any hN6 hA hact (fun k hk => ⟨.inr hk, by rcases hk with h | h | h | h <;> omega⟩) (fun k hk hm => by have := hn3M k hm; rcases hk with h | h | h | h <;> omega) HOK.out.no HOK.out.ln HHT.out.1)
      have z0 := (HF5.out.weak (S2 := fun k => k = w4.heap.size) (fun _ h => h.elim)).trans' HF6.out |>.cell z0 (fun e => by omega)
      have z6 := HF6.out.cell z6' (fun e => by omega)
      have z7 := HF6.out.cell z7' (fun e => by omega)
      have HF36 := Lib.hid hF36
      clear hN6 hdp hA6 hA hact HAS z1 z2 z2b z3 x0 x1 k5 hF36
      go_wp2_with fail
      refine HCALL.out.mono ?_
      rintro e w7 ⟨rfl, X7, M7, hg7, hn7⟩
      have hM7 : ∀ k, M7 k → k < w.heap.size ∨ w3.heap.size ≤ k := fun k hk => by
        rcases hg7.ms k hk with (hm | hm) | hm
        · exact .inl (hn3M k hm)
        · rcases hm with h | h | h | h <;> exact .inr (by omega)
        · have := HF36.out.size
          exact .inr (by omega)
      have hnM : ∀ k, w.heap.size ≤ k → k < w3.heap.size → ¬ (M k ∨ k = db ∨ k = rb ∨ k = w4.heap.size ∨ k = w4.heap.size + 1) := fun k h1 h2 h => by
        rcases h with h | h
        · have := hn3M k h; omega
        · omega
      have z0 := hg7.fr.cell z0 (hnM _ (Nat.le_refl _) (by omega))
      have z6 := hg7.fr.cell z6 (hnM _ (Nat.le_refl _) (by omega))
      have z7 := hg7.fr.cell z7 (hnM _ (Nat.le_refl _) (by omega))
      have HWS := Lib.hid (fun (b off : Nat) (h1 : W.heap.size ≤ b) (h2 : b < w1.heap.size) (u : Value) (hu : w3.cell? ⟨b, off, none⟩ = some u) => show w7.cell? ⟨b, off, none⟩ = some u from hg7.fr.cell (HF36.out.cell hu (by omega)) (hnM b (by omega) (by omega)))
      have HG7 := Lib.hid hg7
      have HN7 := Lib.hid hn7
      have HM7 := Lib.hid hM7
      have zl7 : w.heap.size < w7.heap.size := by have := HF36.out.size; have := hg7.fr.size; omega
      clear hg7 hn7 hM7 HCALL z6' z7' zl5 al5 hnM
      go_wp2_with fail
      have HBR := Lib.hid (fun (X9 M9 : Nat → Prop) (W9 : World) (hg : Gr X7 M7 w7 X9 M9 W9) (hn : NodeAt W9 X9 M9 base T p (fun r => if r = q.ref then w4.heap.size + 1 else P r) (bringN N q l pos kid)) => show ∃ P' X' M', Gr X M w X' M' W9 ∧ NodeAt W9 X' M' base T p P' (bringN N q l pos kid) from ⟨_, X9, M9, bring_gr HF3.out HF36.out HG7.out hg (fun k hk => .inl (.inl hk)) (fun k hk => by
        rcases hk with (hk | hk) | hk | hk | hk | hk
        · exact .inl hk
        all_goals exact .inr (by omega)) (fun k hk => by
        rcases hk with hk | hk | hk | hk | hk
        · exact .inl hk
        all_goals exact .inr (by omega)) (by omega), hn⟩)
      have HNL := Lib.hid (show ∀ (W9 : World), (∃ X9 M9, Gr X7 M7 w7 X9 M9 W9) → ∀ {b off : Nat} {u : Value}, (b = w.heap.size ∨ W.heap.size ≤ b ∧ b < w1.heap.size) → w7.cell? ⟨b, off, none⟩ = some u → W9.cell? ⟨b, off, none⟩ = some u from fun W9 ⟨X9, M9, hg⟩ b off u hb hu => hg.fr.cell hu (fun h => by
        have := HF36.out.size
        rcases HM7.out _ h with h | h <;> rcases hb with hb | hb <;> omega))
      have HL1 := Lib.hid (fun (k : Nat) (W9 : World) (hb : BrAt X7 M7 w7 base T p (fun r => if r = q.ref then w4.heap.size + 1 else P r) (bwN N q (bringA q l pos kid) k) W9) (hk : k < q.ws.length) => hb.watch (lst q.ws k) q.ref (lst_wf HOK.out.ws.2 hk))
      have HL2 := Lib.hid (fun (k : Nat) (W9 : World) (hb : BrAt X7 M7 w7 base T p (fun r => if r = q.ref then w4.heap.size + 1 else P r) (blN N q (bringA q l pos kid) k) W9) (hk : k < q.ls.length) => hb.link (lst q.ls k) q.ref (lst_wf HOK.out.ls.2 hk))
      have HQW := Lib.hid (show 0 < q.ws.length → ∃ b off, B6 = some ⟨b, off, none⟩ ∧ b < w1.heap.size ∧ ∀ (k : Nat), k < q.ws.length → ∀ W9, (∃ X9 M9, Gr X7 M7 w7 X9 M9 W9) → W9.cell? ⟨b, off + k, none⟩ = some (.int .i64 (lst q.ws k)) from fun h0 => by
        obtain ⟨A', c', e', -, -, hrd⟩ := HPP.out.2.2.1
        obtain ⟨b', o', e2, hb', hc'⟩ := hrd h0
        injection e' with e' _ _
        subst e'
        exact ⟨b', o', e2, hb'.2, fun k hk W9 hW9 => HNL.out W9 hW9 (.inr hb') (HWS.out b' (o' + k) hb'.1 hb'.2 _ (hc' k hk))⟩)
      have HQL := Lib.hid (show 0 < q.ls.length → ∃ b off, B7 = some ⟨b, off, none⟩ ∧ b < w1.heap.size ∧ ∀ (k : Nat), k < q.ls.length → ∀ W9, (∃ X9 M9, Gr X7 M7 w7 X9 M9 W9) → W9.cell? ⟨b, off + k, none⟩ = some (.int .i64 (lst q.ls k)) from fun h0 => by
        obtain ⟨A', c', e', -, -, hrd⟩ := HPP.out.2.2.2.1
        obtain ⟨b', o', e2, hb', hc'⟩ := hrd h0
        injection e' with e' _ _
        subst e'
        exact ⟨b', o', e2, hb'.2, fun k hk W9 hW9 => HNL.out W9 hW9 (.inr hb') (HWS.out b' (o' + k) hb'.1 hb'.2 _ (hc' k hk))⟩)
      have HZ7 := Lib.hid (show ∀ W9, (∃ X9 M9, Gr X7 M7 w7 X9 M9 W9) → W9.cell? ⟨w.heap.size, 0, none⟩ = some (.int .i64 q.ref) ∧ W9.cell? ⟨w.heap.size, 6, none⟩ = some (.slice B6 q.ws.length d6) ∧ W9.cell? ⟨w.heap.size, 7, none⟩ = some (.slice B7 q.ls.length d7) ∧ w.heap.size < W9.heap.size ∧ w1.heap.size < W9.heap.size from fun W9 hW9 => ⟨HNL.out W9 hW9 (.inl rfl) z0, HNL.out W9 hW9 (.inl rfl) z6, HNL.out W9 hW9 (.inl rfl) z7, by obtain ⟨_, _, hg⟩ := hW9; have := hg.fr.size; omega, by obtain ⟨_, _, hg⟩ := hW9; have := hg.fr.size; have := HF36.out.size; have := HG7.out.fr.size; omega⟩)
      have HS7 := Lib.hid (show BrAt X7 M7 w7 base T p (fun r => if r = q.ref then w4.heap.size + 1 else P r) (bwN N q (bringA q l pos kid) 0) w7 from ⟨X7, M7, Gr.refl _ _ _, HN7.out⟩)
      have HLN := Lib.hid (And.intro HOK.out.ws.1 HOK.out.ls.1)
      have HGR := Lib.hid (show ∀ (N' : NdS) (W9 : World), BrAt X7 M7 w7 base T p (fun r => if r = q.ref then w4.heap.size + 1 else P r) N' W9 → ∃ X9 M9, Gr X7 M7 w7 X9 M9 W9 from fun _ _ ⟨X9, M9, hg, _⟩ => ⟨X9, M9, hg⟩)
      have HUP1 := Lib.hid (fun (k : Nat) (hk : k < q.ws.length) => bwN_up N q (bringA q l pos kid) hk)
      have HUP2 := Lib.hid (fun (k : Nat) (hk : k < q.ls.length) => blN_up N q (bringA q l pos kid) hk)
      have HALL := Lib.hid (bwN_all N q (bringA q l pos kid))
      have HEND := Lib.hid (fun (W9 : World) (hb : BrAt X7 M7 w7 base T p (fun r => if r = q.ref then w4.heap.size + 1 else P r) (blN N q (bringA q l pos kid) q.ls.length) W9) => show ∃ P' X' M', Gr X M w X' M' W9 ∧ NodeAt W9 X' M' base T p P' (bringN N q l pos kid) from by
        obtain ⟨X9, M9, hg, hn⟩ := hb
        refine HBR.out X9 M9 W9 hg ?_
        have e : blN N q (bringA q l pos kid) q.ls.length = bringN N q l pos kid := by
          unfold blN bringN
          rw [List.take_length]
        rw [← e]
        exact hn)
      generalize bwN N q (bringA q l pos kid) = NW at *
      generalize blN N q (bringA q l pos kid) = NL at *
      generalize (fun r : Int => if r = q.ref then w4.heap.size + 1 else P r) = P7 at *
      clear HBR HNL HWS HM7 HG7 HN7 HF36 HOK HPP HP3 HN3 HD4 HF4 HD5 HN5 HF5 HF6 HO6 HAC HSC HHT HPQ HZ HQ3 HX3 HF3 HF2 HB1 HN0 HF HWW HPA hmk hF4 t1 t2 t3 hw3 hw1' hWw1 z0 z6 z7 zl7 hz5 e4 hxw hn3M HLT HZ5 HW5
      go_loopw [10, 97] (fun _ i wr => ∃ k : Nat, k ≤ q.ws.length ∧ i = .int .i64 (k : Int) ∧ Hid (BrAt X7 M7 w7 base T p P7 (NW k) wr)) (fun _ i _ => q.ws.length - (intOf i).toNat)
      case atStart => exact ⟨0, Nat.zero_le _, rfl, HS7⟩
      case round =>
        obtain ⟨k, hk, rfl, HBk⟩ := hrel
        obtain ⟨wo, hwo⟩ : ∃ wo : World, wo = wr := ⟨_, rfl⟩
        subst hwo
        obtain ⟨y0, y6, y7, yl, yw1⟩ := HZ7.out wo (HGR.out _ _ HBk.out)
        have hlen := HLN.out
        by_cases hlt : k < q.ws.length
        · obtain ⟨b', o', rfl, hb', hc'⟩ := HQW.out (by omega)
          have hv := hc' k hlt wo (HGR.out _ _ HBk.out)
          obtain ⟨ypw, A4, n4, c4, y4, hcall⟩ := HL1.out k wo HBk.out hlt
          rw [← HUP1.out k hlt] at hcall
          have i1 : (0 : Int) ≤ (k : Int) := by omega
          have i2 : (k : Int) < (q.ws.length : Int) := by omega
          have HCA := Lib.hid hcall
          have hbw : b' < wo.heap.size := by omega
          clear hc' hcall hk hlt hb' yw1
          go_wp2_with fail
          go_region_with (first
            | (go_at_call 74; refine (HCA.out _ (by (repeat' first | with_reducible exact Fr.refl _ _ | (with_reducible refine Fr.setEq ?_ _) | (with_reducible refine Fr.setNew ?_ _) | with_reducible refine Fr.alloc ?_ _ | with_reducible refine Fr.drewN ?_ _ | with_reducible refine Fr.drew ?_))).mono ?_; rintro e w8 ⟨A1, n1, c1, y, rfl, hch⟩; have HCH := Lib.hid hch; clear hch)
            | (go_at_call 60; refine (HCH.out _ (by (repeat' first | with_reducible exact Fr.refl _ _ | (with_reducible refine Fr.setEq ?_ _) | (with_reducible refine Fr.setNew ?_ _) | with_reducible refine Fr.alloc ?_ _ | with_reducible refine Fr.drewN ?_ _ | with_reducible refine Fr.drew ?_))).mono ?_; rintro e w9 ⟨rfl, hb9⟩; have HB9 := Lib.hid hb9; clear hb9))
          all_goals
            go_wp2_with fail
            go_roundw
            case rel => exact ⟨k + 1, by omega, by go_num, HB9⟩
            case measure => simp [intOf]; omega
        · have hkk : k = q.ws.length := by omega
          have HS8 := Lib.hid (show BrAt X7 M7 w7 base T p P7 (NL 0) wo by
            rw [← HALL.out, ← hkk]
            exact HBk.out)
          have i2 : decide ((k : Int) < (q.ws.length : Int)) = false := decide_eq_false (by omega)
          clear hk hkk HBk HL1 HUP1 HALL HQW HS7 yw1
          go_wp2_with fail
          go_loopw [12, 117] (fun _ i wr => ∃ k : Nat, k ≤ q.ls.length ∧ i = .int .i64 (k : Int) ∧ Hid (BrAt X7 M7 w7 base T p P7 (NL k) wr)) (fun _ i _ => q.ls.length - (intOf i).toNat)
          case atStart => exact ⟨0, Nat.zero_le _, rfl, HS8⟩
          case round =>
            clear HS8 y0 y6 y7 yl
            obtain ⟨k, hk, rfl, HBk⟩ := hrel
            obtain ⟨wn, hwn⟩ : ∃ wn : World, wn = wr := ⟨_, rfl⟩
            subst hwn
            obtain ⟨y0, y6, y7, yl, yw1⟩ := HZ7.out wn (HGR.out _ _ HBk.out)
            by_cases hlt : k < q.ls.length
            · obtain ⟨b', o', rfl, hb', hc'⟩ := HQL.out (by omega)
              have hv := hc' k hlt wn (HGR.out _ _ HBk.out)
              obtain ⟨ypw, A4, n4, c4, y4, hcall⟩ := HL2.out k wn HBk.out hlt
              rw [← HUP2.out k hlt] at hcall
              have i1 : (0 : Int) ≤ (k : Int) := by omega
              have i2 : (k : Int) < (q.ls.length : Int) := by omega
              have HCA := Lib.hid hcall
              have hbw : b' < wn.heap.size := by omega
              clear hc' hcall hk hlt hb' yw1
              go_wp2_with fail
              go_region_with (first
                | (go_at_call 75; refine (HCA.out _ (by (repeat' first | with_reducible exact Fr.refl _ _ | (with_reducible refine Fr.setEq ?_ _) | (with_reducible refine Fr.setNew ?_ _) | with_reducible refine Fr.alloc ?_ _ | with_reducible refine Fr.drewN ?_ _ | with_reducible refine Fr.drew ?_))).mono ?_; rintro e w8 ⟨A1, n1, c1, y, rfl, hch⟩; have HCH := Lib.hid hch; clear hch)
                | (go_at_call 60; refine (HCH.out _ (by (repeat' first | with_reducible exact Fr.refl _ _ | (with_reducible refine Fr.setEq ?_ _) | (with_reducible refine Fr.setNew ?_ _) | with_reducible refine Fr.alloc ?_ _ | with_reducible refine Fr.drewN ?_ _ | with_reducible refine Fr.drew ?_))).mono ?_; rintro e w9 ⟨rfl, hb9⟩; have HB9 := Lib.hid hb9; clear hb9))
              all_goals
                go_wp2_with fail
                go_roundw
                case rel => exact ⟨k + 1, by omega, by go_num, HB9⟩
                case measure => simp [intOf]; omega
            · have hkk : k = q.ls.length := by omega
              have HE9 := Lib.hid (HEND.out wn (by rw [← hkk]; exact HBk.out))
              have i2 : decide ((k : Int) < (q.ls.length : Int)) = false := decide_eq_false (by omega)
              clear hk hkk yw1
              go_wp2_with fail
              exact bodyPost_ret (v := .int .i64 0) (by simp [results, Tryz.results43, go_sem]) rfl ⟨rfl, HE9.out⟩
end Go.Proofs.YtjjfglbcikaicaaGreat
namespace Go.Proofs.YtjjfglbcikaicaaGreat
open Go.RowKit
set_option linter.unusedVariables false
set_option linter.unusedSimpArgs false
theorem tameL_len12 (L : List (List Stp)) : ∀ l, l ∈ tameL L → l.length ≤ 12 := fun l hl => by
  unfold tameL at hl
  obtain ⟨l0, _, rfl⟩ := List.mem_map.1 hl
  unfold tameScr
  rw [List.length_map, List.length_take]
  omega
theorem makeN_byte {scr : List (List Stp)} {nm : ByteArray} {l : List Stp} (h : makeN scr nm = some l) : ∃ b, nm = ⟨#[b]⟩ := by
  unfold makeN at h
  split at h
  · rename_i b hb
    refine ⟨b, ?_⟩
    obtain ⟨⟨x⟩⟩ := nm
    have hb : x = [b] := hb
    rw [hb]
  · cases h
theorem one_watch (ref : Int) : ∀ (ws : List Int) (r : Li.LR), r.ref = ref → r.ws.length + ws.length ≤ 100 → ws.foldl (fun rs x => watchL rs x ref) [r] = [{ r with ws := r.ws ++ ws }]
  | [], r, _, _ => by simp
  | x :: ws, r, hr, hl => by
    have hl : r.ws.length + (ws.length + 1) ≤ 100 := by simpa using hl
    have e : watchL [r] x ref = [{ r with ws := r.ws ++ [x] }] := by
      unfold watchL
      rw [List.map_cons, List.map_nil, if_pos]
      rw [hr, decide_eq_true (by omega)]
      simp
    rw [List.foldl_cons, e, one_watch ref ws { r with ws := r.ws ++ [x] } hr (by simp; omega)]
    simp
theorem one_link (ref : Int) : ∀ (ls : List Int) (r : Li.LR), r.ref = ref → r.ls.length + ls.length ≤ 100 → (r.ls ++ ls).Nodup → ls.foldl (fun rs x => linkL rs ref x) [r] = [{ r with ls := r.ls ++ ls }]
  | [], r, _, _, _ => by simp
  | x :: ls, r, hr, hl, hn => by
    have hl : r.ls.length + (ls.length + 1) ≤ 100 := by simpa using hl
    have hx : x ∉ r.ls := fun hm => (List.nodup_append.1 hn).2.2 x hm x (by simp) rfl
    have e : linkL [r] ref x = [{ r with ls := r.ls ++ [x] }] := by
      unfold linkL
      rw [List.map_cons, List.map_nil, if_pos]
      rw [hr, decide_eq_true (by omega), show r.ls.contains x = false by simpa using hx]
      simp
    rw [List.foldl_cons, e, one_link ref ls { r with ls := r.ls ++ [x] } hr (by simp; omega) (by simpa using hn)]
    simp
theorem clear_nodup {l : List Int} (h : Li.ClearL l) : l.Nodup := by
  refine List.pairwise_iff_getElem.2 (fun i j hi hj hij e => ?_)
  have h1 := h j hj
  have h2 : lst l j = l[j] := by simp [lst, hj]
  rw [h2, ← e] at h1
  exact h1 (List.mem_iff_getElem.2 ⟨i, by rw [List.length_take]; omega, by rw [List.getElem_take]⟩)
/-- what lies in a parcel of a begun node -/
structure PclOk (L : List (List Stp)) (q : PclS) (l : List Stp) (b : UInt8) (pos : Nat) (kid : Int) : Prop where
  br : ∀ f, BrOk (newN 1 L f) q l b pos kid
  nd : q.ls.Nodup
  tk : -1 ≤ q.ticks ∧ q.ticks ≤ 9
theorem newN_has (L : List (List Stp)) (f : Nat) (r : Int) : (newN 1 L f).has r = false := rfl
/-- out of the parcel, and into one again -/
theorem pcl_back {L : List (List Stp)} {q : PclS} {l : List Stp} {b : UInt8} {pos : Nat} {kid : Int} (h : PclOk L q l b pos kid) (f : Nat) :
    pclN (bringN (newN 1 L f) q l pos kid) (bringA q l pos kid) = q ∧ (bringN (newN 1 L f) q l pos kid).find q.ref = some (bringA q l pos kid) ∧ AllA TkOk (bringN (newN 1 L f) q l pos kid) := by
  have hb := h.br f
  have hrow : (bringN (newN 1 L f) q l pos kid).rows = [⟨q.ref, q.ws, q.ls⟩] := by
    have e0 : addR (newN 1 L f).rows q.ref = [⟨q.ref, [], []⟩] := by
      have h1 := hb.rf.1
      show addR [] q.ref = _
      unfold addR
      rw [if_neg]
      · rfl
      · intro e
        rcases e with e | e | e
        · omega
        · cases e
        · cases e
    show q.ls.foldl (fun r x => linkL r q.ref x) (q.ws.foldl (fun r x => watchL r x q.ref) (addR (newN 1 L f).rows q.ref)) = _
    rw [e0, one_watch q.ref q.ws _ rfl (by have := hb.ws.1; simpa using this), one_link q.ref q.ls _ rfl (by have := hb.ls.1; simpa using this) (by simpa using h.nd)]
    simp
  have hrd : rowD (bringN (newN 1 L f) q l pos kid).rows q.ref = ⟨q.ref, q.ws, q.ls⟩ := by
    rw [hrow]
    unfold rowD rowL
    rw [List.find?_cons_of_pos (by simp)]
    rfl
  refine ⟨?_, ?_, ?_⟩
  · have hs := hb.st
    show PclS.mk q.ref q.nm (topV (backD q.nm l pos kid q.ref).r) q.box q.ticks (rowD (bringN (newN 1 L f) q l pos kid).rows q.ref).ws (rowD (bringN (newN 1 L f) q l pos kid).rows q.ref).ls = q
    rw [hrd]
    have e2 : topV (backD q.nm l pos kid q.ref).r = q.st := by
      rw [hs]
      rfl
    rw [e2]
  · show List.find? _ [bringA q l pos kid] = _
    rw [List.find?_cons_of_pos (by simp [bringA])]
  · intro a ha
    have ha : a ∈ [bringA q l pos kid] := ha
    rw [List.mem_singleton.1 ha]
    refine ⟨h.tk, ?_⟩
    show -1 ≤ lnS l pos ∧ lnS l pos ≤ 9
    unfold lnS
    omega
/-- the parcel of an actor of a begun node -/
theorem begun_pcl {L : List (List Stp)} (hL : ∀ l, l ∈ L → TameS l) (h12 : ∀ l, l ∈ L → l.length ≤ 12) (x : Int) (d : List Dd) (hok : NdOk (begunN L x d)) (htk : AllA TkOk (begunN L x d)) {ref : Int} {a : ActS} (ha : (begunN L x d).find ref = some a) (hw : a.waits = true) :
    ∃ b l pos kid, PclOk L (pclN (begunN L x d) a) l b pos kid ∧ (pclN (begunN L x d) a).ref = ref := by
  obtain ⟨c, hsim⟩ := begun_sim hL x d
  obtain ⟨hm, hr⟩ := find_some ha
  have hscr : (begunN L x d).scr = L := by
    unfold begunN
    have key : ∀ (l : List Dd) (N : NdS), (l.foldl doN N).scr = N.scr := fun l => by
      induction l with
      | nil => intro N; rfl
      | cons d l ih => intro N; exact (ih _).trans (doN_fuel N d).2.2
    exact key _ _
  have hlv := hsim.liv a hm rfl
  rw [hscr] at hlv
  obtain ⟨b, hb⟩ := makeN_byte hlv.mkn
  have hwt := hlv.lk.2 (hlv.w hw)
  have hact := hok.act a hm
  have htka := htk a hm
  have hro := rowsOk_iff.1 hok.rows
  have hmem : a.d.l ∈ L := makeN_mem hlv.mkn
  have hl12 := h12 _ hmem
  have href : ∃ r, r ∈ (begunN L x d).rows ∧ r.ref = a.ref := by
    have : a.ref ∈ (begunN L x d).acts.map (·.ref) := List.mem_map.2 ⟨a, hm, rfl⟩
    rw [← hsim.ra] at this
    obtain ⟨r, hr, e⟩ := List.mem_map.1 this
    exact ⟨r, hr, e⟩
  obtain ⟨r, hrm, hre⟩ := href
  have hrd : rowD (begunN L x d).rows a.ref = r := by
    unfold rowD
    rw [← hre, find_uniqR hro.2.1 hrm]
    rfl
  have hrk := hro.2.2 r hrm
  obtain ⟨k1, k2, k3, k4, k5, k6, k7⟩ := hrk
  refine ⟨b, a.d.l, a.d.r.pos, a.d.r.kid, ⟨fun f => ?_, ?_, htka.1⟩, hr⟩
  · refine { nm := hb, st := rfl, mkn := ?_, ps := hwt.2, kd := ⟨hlv.k0, hact.kid⟩, kb := ?_, pw := by have := hwt.2.1; omega, sw := hact.stps, rf := ⟨?_, hact.ref⟩, tk := htka.1.1, ws := ?_, ls := ?_, bx := ⟨hact.box.1, Nat.zero_le _, hact.box.2.2⟩, no := rfl, ln := ?_ }
    · rw [← hb]; exact hlv.mkn
    · have := hact.kid.low; exact ⟨this.1, by have h2 : a.d.r.kid ≤ 9223372036854775807 := this.2; omega⟩
    · show 1 ≤ a.ref
      rw [← hre]; exact k1
    · show (rowD (begunN L x d).rows a.ref).ws.length ≤ 100 ∧ _
      rw [hrd]
      refine ⟨k2, fun y hy => k6 y ?_⟩
      have hy : y ∈ (rowD (begunN L x d).rows a.ref).ws := hy
      rw [hrd] at hy
      exact hy
    · show (rowD (begunN L x d).rows a.ref).ls.length ≤ 100 ∧ _
      rw [hrd]
      refine ⟨k3, fun y hy => k7 y ?_⟩
      have hy : y ∈ (rowD (begunN L x d).rows a.ref).ls := hy
      rw [hrd] at hy
      exact hy
    · show (0 : Nat) < 60
      omega
  · show (rowD (begunN L x d).rows a.ref).ls.Nodup
    rw [hrd]
    exact clear_nodup k4
def moreI (N : NdS) (l : List Dd) (m i : Nat) : NdS := (l.take (min i m)).foldl doN N
theorem moreI_up {N : NdS} {l : List Dd} {m i : Nat} (h : i < l.length) (h4 : i < m) : moreI N l m (i + 1) = doN (moreI N l m i) (nthDd l i) := by
  unfold moreI
  rw [show min (i + 1) m = i + 1 by omega, show min i m = i by omega, List.take_add_one, List.getElem?_eq_getElem h, List.foldl_append]
  unfold nthDd
  rw [List.getD_eq_getElem?_getD, List.getElem?_eq_getElem h]
  rfl
theorem moreI_same {N : NdS} {l : List Dd} {m i : Nat} (h4 : ¬ i < m) : moreI N l m (i + 1) = moreI N l m i := by
  unfold moreI
  rw [show min (i + 1) m = min i m by omega]
end Go.Proofs.YtjjfglbcikaicaaGreat
namespace Go.Proofs.YtjjfglbcikaicaaGreat
open Go.RowKit
set_option linter.unusedVariables false
set_option linter.unusedSimpArgs false
/-- M1 are one node's blocks, X2 and M2 another one's -/
structure Apart2 (base : Nat) (M1 X2 M2 : Nat → Prop) : Prop where
  sub : ∀ k, M1 k → X2 k ∧ base ≤ k
  dis : ∀ k, M1 k → ¬ M2 k
section
variable {w w' : World} {X1 M1 X1' M1' X2 M2 : Nat → Prop} {base base2 T1 T2 p1 p2 : Nat} {P1 P2 : Int → Nat} {N1 N2 : NdS}
/-- a call of the first node; the second one stays -/
theorem NodeAt.other (h2 : NodeAt w X2 M2 base T2 p2 P2 N2) (hg : Gr X1 M1 w X1' M1' w') (hn : NodeAt w' X1' M1' base2 T1 p1 P1 N1) (ha : Apart2 base M1 X2 M2) (hb : base ≤ w.heap.size) :
    NodeAt w' (XW X2 w w') M2 base T2 p2 P2 N2 ∧ Apart2 base M1' (XW X2 w w') M2 := by
  have h3 : NodeAt w' (XW X2 w w') M2 base T2 p2 P2 N2 := h2.fr hg.fr ha.sub (fun k hk => .inl hk) (fun k hk => hk) (fun k hk hm => ha.dis k hm hk)
  refine ⟨h3, fun k hk => ?_, fun k hk hm => ?_⟩
  · rcases hg.ms k hk with h | h
    · exact ⟨.inl (ha.sub k h).1, (ha.sub k h).2⟩
    · exact ⟨.inr ⟨h, hn.xlt k (hn.2.2.1 k hk).1⟩, by omega⟩
  · rcases hg.ms k hk with h | h
    · exact ha.dis k h hm
    · have := h2.xlt k (h2.2.2.1 k hm).1
      omega
/-- and the other way round: the second node's blocks lie where the first one may be changed -/
theorem Apart2.up (ha : Apart2 base M2 X1 M1) (hg : Gr X1 M1 w X1' M1' w') (h2 : ∀ k, M2 k → k < w.heap.size) : Apart2 base M2 X1' M1' :=
  ⟨fun k hk => ⟨hg.up k (ha.sub k hk).1, (ha.sub k hk).2⟩, fun k hk hm => by
    rcases hg.ms k hm with h | h
    · exact ha.dis k hk h
    · have := h2 k hk; omega⟩
/-- both nodes, each apart from the other -/
structure Two (w : World) (base T1 T2 p1 p2 : Nat) (P1 P2 : Int → Nat) (X1 M1 X2 M2 : Nat → Prop) (N1 N2 : NdS) : Prop where
  n1 : NodeAt w X1 M1 base T1 p1 P1 N1
  n2 : NodeAt w X2 M2 base T2 p2 P2 N2
  a12 : Apart2 base M1 X2 M2
  a21 : Apart2 base M2 X1 M1
  hb : base ≤ w.heap.size
theorem Two.sym (h : Two w base T1 T2 p1 p2 P1 P2 X1 M1 X2 M2 N1 N2) : Two w base T2 T1 p2 p1 P2 P1 X2 M2 X1 M1 N2 N1 := ⟨h.n2, h.n1, h.a21, h.a12, h.hb⟩
/-- the first one is called -/
theorem Two.call {T1' : Nat} {P1' : Int → Nat} {N1' : NdS} (h : Two w base T1 T2 p1 p2 P1 P2 X1 M1 X2 M2 N1 N2) (hg : Gr X1 M1 w X1' M1' w') (hn : NodeAt w' X1' M1' base T1' p1 P1' N1') : Two w' base T1' T2 p1 p2 P1' P2 X1' M1' (XW X2 w w') M2 N1' N2 := by
  obtain ⟨h2, h3⟩ := h.n2.other hg hn h.a12 h.hb
  exact ⟨hn, h2, h3, h.a21.up hg (fun k hk => h.n2.xlt k (h.n2.2.2.1 k hk).1), Nat.le_trans h.hb hg.fr.size⟩
theorem Two.new (h : Two w base T1 T2 p1 p2 P1 P2 X1 M1 X2 M2 N1 N2) (hf : Fr (fun _ => False) w w') : Two w' base T1 T2 p1 p2 P1 P2 X1 M1 X2 M2 N1 N2 :=
  ⟨h.n1.new hf (fun _ h => h), h.n2.new hf (fun _ h => h), h.a12, h.a21, Nat.le_trans h.hb hf.size⟩
end
end Go.Proofs.YtjjfglbcikaicaaGreat
namespace Go.Proofs.YtjjfglbcikaicaaGreat
open Go.RowKit
set_option linter.unusedVariables false
set_option linter.unusedSimpArgs false
/-- letters are the same as themselves -/
theorem sameLs_self {w : World} {S1 S2 : Nat → Prop} {A B : Option Addr} {n c d : Nat} {arg : Nat → LT} (hn : n ≤ 9223372036854775807) (h1 : RdL w S1 A n arg) (h2 : RdL w S2 B n arg) :
    Calls Tryz.prog 20 #[.slice A n c, .slice B n d] w fun e w' => e = .returned (.bool true) ∧ Below w.heap.size w w' := by
  have e : (n == n && allTo (fun i => sameLB (arg i) (arg i)) n) = true := by
    have h : allTo (fun i => sameLB (arg i) (arg i)) n = true := by
      rw [allTo_true]
      intro i hi
      obtain ⟨b, off, _, _, _, C, hC⟩ := h1 (by omega)
      exact sameLB_refl (hC i hi).1
    rw [h]
    simp
  have h := sameLs_any n n c d A B arg arg S1 S2 w hn hn h1 h2
  rw [e] at h
  exact h
/-- the letters that were told lie in blocks that nobody writes, or that were the node's -/
def OutPost2 (X M : Nat → Prop) (base T p : Nat) (P : Int → Nat) (N : NdS) (w : World) (e : Ending) (w' : World) : Prop :=
  ∃ A c S M', e = .returned (.slice A N.out.length c) ∧ N.out.length ≤ c ∧ c ≤ 9223372036854775807 ∧ RdL w' S A N.out.length (nthL N.out) ∧ (∀ k, S k → ¬ X k ∨ M k) ∧ Gr X M w X M' w' ∧ NodeAt w' X M' base T p P (outN N)
set_option maxRecDepth 100000 in
set_option maxHeartbeats 4000000 in
theorem out_any2 {w : World} {X M : Nat → Prop} {base T p : Nat} {P : Int → Nat} {N : NdS} (h : NodeAt w X M base T p P N) :
    Calls Tryz.prog 21 #[.pointer (some ⟨p, 0, none⟩)] w (OutPost2 X M base T p P N w) := by
  have hpX := h.pM
  obtain ⟨h1, h2, h3, mb, hb, MA, ob, sb, h4, h5⟩ := h
  obtain ⟨v8, C, c8, ho⟩ := h4.c8
  obtain ⟨A, c, rfl, k1, k2, k3⟩ := own_any ho.row
  have hG := h4.out0 hpX.2
  have hfz := h4.fz 8
  have hap := h4.ap
  have hown := h4.own
  have HF := Lib.hid (show OutPost2 X M base T p P N w (.returned (.slice A N.out.length c)) (w.setCell ⟨p, 8, none⟩ (.slice none 0 0)) from by
    have hfr : Fr (fun k => k = p) w (w.setCell ⟨p, 8, none⟩ (.slice none 0 0)) := Fr.setAt (Fr.refl _ w) _
    refine ⟨A, c, fun k => ¬ X k ∨ ob = some k, fun k => M k ∧ ob ≠ some k, rfl, k1, k2, ?_, fun k hk => ?_, ⟨(Fr.refl M w).set (.inl hpX.1) _, fun _ h => h, fun _ h => .inl h, fun k hk => .inl hk.1⟩, { h1 with }, fun k hk => by simpa using h2 k hk, fun k hk => h3 k hk.1, mb, hb, MA, none, sb, hG, ⟨h5.p, fun e => (hap.2.2.2.1 p e).1 rfl⟩, ⟨h5.mb, fun e => (hap.2.2.2.1 mb e).2.1 rfl⟩, ⟨h5.hb, fun e => (hap.2.2.2.1 hb e).2.2.1 rfl⟩, fun k hk => (by cases hk), fun k hk => ⟨h5.sb k hk, fun e => (hap.2.2.2.1 k e).2.2.2 hk⟩, fun a ha k hk => ⟨h5.act a ha k hk, fun e => (hown a ha k hk).2.2.2.1 e⟩⟩
    · intro h0
      obtain ⟨g, cap, hv, hb0, hlt, hc⟩ := own_form ho.row h0
      injection hv with e1 e2 e3
      subst e1 e3
      have hog : ob = some g := ho.blk.symm
      have hgp : g ≠ p := (hap.2.2.2.1 g hog).1
      refine ⟨g, 0, rfl, by simpa using hlt, .inr hog, C, fun i hi => ⟨?_, fun j u hu => ?_⟩⟩
      · exact isL_frame hfr.size (fun k hk hl => ⟨.inl hk, hfr.block k hl (fun e => hk (e ▸ hpX.2.1))⟩) (ho.each i hi)
      · have hj : j < 9 := by
          have := (List.getElem?_eq_some_iff.1 hu).1
          rw [ho.len i] at this
          exact this
        have := own_cellC ho.row ho.len hi hj
        rw [Nat.zero_add]
        exact hfr.cell (this.trans hu) hgp
    · rcases hk with hk | hk
      · exact .inl hk
      · exact .inr (h5.ob k hk))
  clear h1 h2 h3 h4 h5 hG hap hown ho k3
  go_enter Tryz.func21, Tryz.ntmps21
  go_wp2_with fail
  refine bodyPost_ret (v := .slice A N.out.length c) (by simp [results, Tryz.results21, go_sem]) rfl ?_
  exact HF.out
/-- two nodes that were begun, one behind the other -/
theorem two_begun {w2 w3 : World} {base T1 T2 p1 p2 : Nat} {P1 P2 : Int → Nat} {X1 M1 X2 M2 : Nat → Prop} {N1 N2 : NdS} (h1 : NodeAt w2 X1 M1 base T1 p1 P1 N1) (hf : Fr (fun _ => False) w2 w3) (hX : ∀ k, X1 k → X2 k) (hM : ∀ k, M2 k → w2.heap.size ≤ k) (h2 : NodeAt w3 X2 M2 base T2 p2 P2 N2) (hb : base ≤ w3.heap.size) : Two w3 base T1 T2 p1 p2 P1 P2 (XW X1 w2 w3) M1 X2 M2 N1 N2 :=
  ⟨h1.xw hf, h2, ⟨fun k hk => ⟨hX k (h1.2.2.1 k hk).1, (h1.2.2.1 k hk).2⟩, fun k hk hm => by
    have := h1.xlt k (h1.2.2.1 k hk).1
    have := hM k hm
    omega⟩, ⟨fun k hk => ⟨.inr ⟨hM k hk, h2.xlt k (h2.2.2.1 k hk).1⟩, (h2.2.2.1 k hk).2⟩, fun k hk hm => by
    have := h1.xlt k (h1.2.2.1 k hm).1
    have := hM k hk
    omega⟩, hb⟩
theorem argDds_nil (w : World) : ArgDds w (.slice none 0 0) [] := ⟨none, 0, rfl, Nat.le_refl _, by omega, fun h => absurd h (by simp), fun k hk => absurd hk (by simp)⟩
/-- rows of the same numbers are equal -/
theorem equalI_own {w : World} {B1 B2 c d : Nat} {A B : Option Addr} {n : Nat} {l : List Int} (hn : n = l.length) (h1 : OwnI w B1 (.slice A n c) l) (h2 : OwnI w B2 (.slice B n d) l) (hl : l.length ≤ 9223372036854775807) :
    Calls Tryz.prog 30 #[.slice A n c, .slice B n d] w fun e w' => e = .returned (.bool true) ∧ Below w.heap.size w w' := by
  subst hn
  exact equalI_same A B _ _ c d (lst l) (lst l) w rfl hl h1.rd h2.rd (fun _ _ => rfl)
end Go.Proofs.YtjjfglbcikaicaaGreat
namespace Go.Proofs.YtjjfglbcikaicaaGreat
open Go.RowKit Go.ChangeShapes Go.WideShapes
set_option linter.unusedVariables false
set_option linter.unusedSimpArgs false
set_option maxRecDepth 100000 in
set_option maxHeartbeats 16000000 in
theorem nodeMoves_walk {H : Type} {enc : TypeId × Value → H} (W : World) (base : Nat) (v0 v1 v2 v3 v4 : Value) {d0 d1 d2 d3 d4 : DataW H} {p0 p1 p2 p3 p4 : List MemPlace}
    (k0 : Value.okWide Tryz.prog W .any base 25 v0) (k1 : Value.okWide Tryz.prog W .any base 3 v1) (k2 : Value.okWide Tryz.prog W .any base 56 v2) (k3 : Value.okWide Tryz.prog W .any base 3 v3) (k4 : Value.okWide Tryz.prog W .any base 56 v4)
    (h0 : DataW.Trod enc Tryz.prog W 0 (fun _ => true) true 25 v0 d0 p0) (h1 : DataW.Trod enc Tryz.prog W 0 (fun _ => true) true 3 v1 d1 p1) (h2 : DataW.Trod enc Tryz.prog W 0 (fun _ => true) true 56 v2 d2 p2) (h3 : DataW.Trod enc Tryz.prog W 0 (fun _ => true) true 3 v3 d3 p3) (h4 : DataW.Trod enc Tryz.prog W 0 (fun _ => true) true 56 v4 d4 p4) :
    Calls Tryz.prog 13 #[v0, v1, v2, v3, v4] W fun e W' => e = .returned (.bool true) ∧ Below W.heap.size W W' := by
  obtain ⟨L, hL⟩ := open_scripts k0 h0
  obtain ⟨f, rfl, _, _, _⟩ := open_int Tryz.underlying3 k1 h1
  obtain ⟨l, hl⟩ := open_deeds k2 h2
  obtain ⟨wh, rfl, _, _, _⟩ := open_int Tryz.underlying3 k3 h3
  obtain ⟨mo, hmo⟩ := open_deeds k4 h4
  have HTM := Lib.hid (tame_scr v0 L W hL)
  have HLW := Lib.hid (tameL_wf hL.wf)
  obtain ⟨A0, c0, rfl, _⟩ := hL
  have HDD := Lib.hid hl
  obtain ⟨A2, c2, rfl, _⟩ := hl
  have HMO := Lib.hid hmo
  obtain ⟨A4, c4, rfl, _⟩ := hmo
  have HTT := Lib.hid (tameL_tame L)
  have HT12 := Lib.hid (tameL_len12 L)
  clear k0 k1 k2 k3 k4 h0 h1 h2 h3 h4
  go_enter Tryz.func13, Tryz.ntmps13
  go_wp2_with fail
  refine HTM.out.mono ?_
  rintro e w1 ⟨A1, c1, rfl, hs1, hb1⟩
  generalize tameL L = L1 at *
  have HF1 := Lib.hid (show Fr (fun k => W.heap.size ≤ k) W w1 from Fr.of_below hb1)
  have HSC := Lib.hid (fun (W9 : World) (hf : Fr (fun k => w1.heap.size ≤ k) w1 W9) => hs1.fr hf (fun _ h => h))
  have HBG := Lib.hid (begun_any (fun _ => False) w1.heap.size A1 c1 L1 f _ l w1 (fun _ h => h.elim) (Nat.le_refl _) hs1 HLW.out (HDD.out.below hb1))
  clear hs1 hb1 HTM HDD
  go_wp2_with fail
  refine HBG.out.mono ?_
  rintro e w2 ⟨p, P, X, M, rfl, hf2, -, hX, hM, hn2, htk2⟩
  have HBP := Lib.hid (fun (ref : Int) (a : ActS) (ha : (begunN L1 f l).find ref = some a) (hw : a.waits = true) => begun_pcl HTT.out HT12.out f l hn2.ok htk2 ha hw)
  have HF2 := Lib.hid (hf2.weak (S2 := fun k => w1.heap.size ≤ k) (fun _ h => h.elim))
  have HN2 := Lib.hid hn2
  generalize begunN L1 f l = N at *
  have HBG2 := Lib.hid (begun_any X w1.heap.size A1 c1 L1 f (.slice none 0 0) [] w2 hn2.xlt hf2.size (HSC.out w2 (hf2.weak (fun _ h => h.elim))) HLW.out (argDds_nil w2))
  have e0 : begunN L1 f [] = newN 1 L1 (fuelN f) := rfl
  rw [e0] at HBG2
  clear hX hM htk2 hf2 hn2 HBG e0
  go_wp2_with fail
  refine HBG2.out.mono ?_
  rintro e w3 ⟨p', P', X', M', rfl, hf3, hX0, hX, hM, hn3, -⟩
  have HTW := Lib.hid (two_begun HN2.out hf3 hX0 hM hn3 (Nat.le_trans HF2.out.size hf3.size))
  have HF3 := Lib.hid (HF2.out.trans' (hf3.weak (S2 := fun k => w1.heap.size ≤ k) (fun _ h => h.elim)))
  clear hf3 hX0 hX hM hn3 HBG2 HN2
  go_wp2_with fail
  refine (nodes_any w3).mono ?_
  rintro e w4 ⟨rfl, hb4⟩
  have HTW4 := Lib.hid (HTW.out.new (Fr.of_below hb4))
  have HF4 := Lib.hid (HF3.out.trans' ((Fr.of_below (S := fun _ => False) hb4).weak (S2 := fun k => w1.heap.size ≤ k) (fun _ h => h.elim)))
  have HR := Lib.hid (refs_any HTW4.out.n1)
  clear hb4 HTW HF2 HF3
  go_wp2_with fail
  refine HR.out.mono ?_
  rintro e w5 ⟨A5, c5, rfl, hO5, hb5⟩
  have HTW5 := Lib.hid (HTW4.out.new (Fr.of_below hb5))
  have HF5 := Lib.hid (HF4.out.trans' ((Fr.of_below (S := fun _ => False) hb5).weak (S2 := fun k => w1.heap.size ≤ k) (fun _ h => h.elim)))
  have HO5 := Lib.hid hO5
  have HEND := Lib.hid (show ∀ W9, Fr (fun k => w1.heap.size ≤ k) w1 W9 → Below W.heap.size W W9 from fun W9 hf => (HF1.out.trans' (hf.weak (S2 := fun k => W.heap.size ≤ k) (fun k hk => Nat.le_trans HF1.out.size hk))).below (fun k hk => hk) (Nat.le_refl _))
  clear hO5 hb5 HR HTW4 HF4
  by_cases h0 : N.acts.length = 0
  · rw [h0]
    clear h0
    go_wp2_with fail
    refine bodyPost_ret (v := .bool true) (by simp [results, Tryz.results13, go_sem]) rfl ⟨rfl, HEND.out _ HF5.out⟩
  have hlen60 := HTW5.out.n1.ok.len
  obtain ⟨ix, hix, hixl⟩ : ∃ ix : Nat, ((IntKind.u64.wrap wh).tmod ((N.acts.length : Nat) : Int)).toNat = ix ∧ ix < N.acts.length := by
    refine ⟨_, rfl, ?_⟩
    obtain ⟨g0, g1⟩ := u64_wrap_range wh
    rw [Int.tmod_eq_emod_of_nonneg g0]
    have a0 := Int.emod_nonneg (IntKind.u64.wrap wh) (show ((N.acts.length : Nat) : Int) ≠ 0 by omega)
    have a1 := Int.emod_lt_of_pos (IntKind.u64.wrap wh) (show (0 : Int) < ((N.acts.length : Nat) : Int) by omega)
    omega
  have hwr := wrap_rem wh N.acts.length (by omega) (by omega)
  rw [hix] at hwr
  obtain ⟨b, off, hA, hb, hcell⟩ := HO5.out.rd (by rw [refsN_len]; omega)
  have c0 := hcell ix (by rw [refsN_len]; exact hixl) 0 _ rfl
  simp only [Nat.add_zero, Nat.mul_one] at c0
  obtain ⟨ref, href⟩ : ∃ r, lst (refsN N) ix = r := ⟨_, rfl⟩
  rw [href] at c0
  have hmem : ref ∈ refsN N := by
    rw [← href]
    unfold lst
    rw [List.getD_eq_getElem?_getD, List.getElem?_eq_getElem (by rw [refsN_len]; exact hixl)]
    exact List.getElem_mem _
  have hhas := mem_refsN.1 hmem
  obtain ⟨a, ha⟩ : ∃ a, N.find ref = some a := by
    unfold NdS.has at hhas
    exact Option.isSome_iff_exists.1 hhas
  have hwf : Wf ref := by
    obtain ⟨hm, e⟩ := find_some ha
    rw [← e]
    exact (HTW5.out.n1.ok.act a hm).ref
  have hu : IntKind.u64.wrap ((N.acts.length : Nat) : Int) = ((N.acts.length : Nat) : Int) := by rw [wrapI_u64]; omega
  have i1 : (0 : Int) ≤ (ix : Int) := by omega
  have i2 : (ix : Int) < (N.acts.length : Int) := by omega
  have i0 : (((N.acts.length : Nat) : Int) == 0) = false := by
    have : ¬ ((N.acts.length : Nat) : Int) = 0 := by omega
    simpa using this
  have h0i : ¬ ((N.acts.length : Nat) : Int) = 0 := by omega
  have HRD := Lib.hid (show ∀ W9, Fr (fun _ => False) w5 W9 → OwnI W9 w4.heap.size (.slice A5 N.acts.length c5) (refsN N) from fun W9 hf => hf.row HO5.out (fun _ _ h => h))
  subst hA
  have HA := Lib.hid ha
  have HWF := Lib.hid hwf
  clear hcell hmem hhas ha hwf hix href h0 HO5 hixl
  rcases hw : a.waits with _ | _
  · have HTK := Lib.hid (fun (W9 : World) (hf : Fr (fun _ => False) w5 W9) => take_no (HTW5.out.n1.new hf (fun _ h => h)) HA.out hw)
    unfold zeroPcl at HTK
    clear hw HBP
    go_wp2_with fail
    refine (HTK.out _ (by (repeat' first | with_reducible exact Fr.refl _ _ | (with_reducible refine Fr.setEq ?_ _) | (with_reducible refine Fr.setNew ?_ _) | with_reducible refine Fr.alloc ?_ _ | with_reducible refine Fr.drewN ?_ _ | with_reducible refine Fr.drew ?_))).mono ?_
    rintro e w6 ⟨rfl, hb6⟩
    have HF6 := Lib.hid ((show Fr (fun _ => False) w5 _ by (repeat' first | with_reducible exact Fr.refl _ _ | (with_reducible refine Fr.setEq ?_ _) | (with_reducible refine Fr.setNew ?_ _) | with_reducible refine Fr.alloc ?_ _ | with_reducible refine Fr.drewN ?_ _ | with_reducible refine Fr.drew ?_)).trans' (Fr.of_below (S := fun _ => False) hb6))
    have HRF := Lib.hid (fun (W9 : World) (hf : Fr (fun _ => False) w6 W9) => refs_any (HTW5.out.n1.new (HF6.out.trans' hf) (fun _ h => h)))
    clear hb6 HTK c0
    go_wp2_with fail
    refine (HRF.out _ (by (repeat' first | with_reducible exact Fr.refl _ _ | (with_reducible refine Fr.setEq ?_ _) | (with_reducible refine Fr.setNew ?_ _) | with_reducible refine Fr.alloc ?_ _ | with_reducible refine Fr.drewN ?_ _ | with_reducible refine Fr.drew ?_))).mono ?_
    rintro e w7 ⟨A7, c7, rfl, hO7, hb7⟩
    have HF7 := Lib.hid ((HF6.out.trans' (show Fr (fun _ => False) w6 _ by (repeat' first | with_reducible exact Fr.refl _ _ | (with_reducible refine Fr.setEq ?_ _) | (with_reducible refine Fr.setNew ?_ _) | with_reducible refine Fr.alloc ?_ _ | with_reducible refine Fr.drewN ?_ _ | with_reducible refine Fr.drew ?_))).trans' (Fr.of_below (S := fun _ => False) hb7))
    have HEQ := Lib.hid (equalI_own (refsN_len N).symm hO7 (HRD.out w7 HF7.out) (by rw [refsN_len]; omega))
    clear hO7 hb7
    go_wp2_with fail
    refine HEQ.out.mono ?_
    rintro e w8 ⟨rfl, hb8⟩
    have HB8 := Lib.hid hb8
    clear hb8 HEQ
    go_wp2_with fail
    refine bodyPost_ret (v := .bool true) (by simp [results, Tryz.results13, go_sem]) rfl ⟨rfl, HEND.out _ ?_⟩
    exact HF5.out.trans' ((HF7.out.trans' (Fr.of_below HB8.out)).weak (S2 := fun k => w1.heap.size ≤ k) (fun _ h => h.elim))
  · obtain ⟨b0, ls0, pos, kid, hpo, hqr⟩ := HBP.out ref a HA.out hw
    have HTK := Lib.hid (take_any HTW5.out.n1 HA.out hw HWF.out)
    generalize pclN N a = q at *
    have HPO := Lib.hid hpo
    subst hqr
    clear hpo hw HBP HA HRD
    go_wp2_with fail
    refine HTK.out.mono ?_
    rintro e w6 ⟨cs, X6, M6, rfl, hp6, hg6, hn6⟩
    obtain ⟨S6, hp6, hSl, hSm⟩ : ∃ S6 : Nat → Prop, PclAt w6 S6 q cs ∧ (∀ b, S6 b → w5.heap.size ≤ b ∧ b < w6.heap.size) ∧ ∀ b, S6 b → ¬ M6 b := ⟨_, hp6, fun b h => ⟨h.1, h.2.1⟩, fun b h => h.2.2⟩
    have HTW6 := Lib.hid (HTW5.out.call hg6 hn6)
    have HF6 := Lib.hid (HF5.out.trans' (hg6.fr.weak (S2 := fun k => w1.heap.size ≤ k) (fun k hk => (HTW5.out.n1.2.2.1 k hk).2)))
    have HSL := Lib.hid hSl
    have HM6 := Lib.hid (show ∀ k, M' k → k < w5.heap.size from fun k hk => HTW5.out.n2.xlt k (HTW5.out.n2.2.2.1 k hk).1)
    have HB6 := Lib.hid (And.intro HF5.out.size hg6.fr.size)
    have HND := Lib.hid (show q.ref ∉ refsN (dropN N q.ref) from fun hm => by
      have h := mem_refsN.1 hm
      unfold dropN at h
      split at h
      · have h2 : (N.delA q.ref).has q.ref = true := h
        rw [has_delA, if_pos rfl] at h2
        cases h2
      · rename_i hn
        exact hn h)
    obtain ⟨A2q, c2q, A4q, c4q, v6, v7, rfl, hq⟩ := hp6
    obtain ⟨A6q, c6q, rfl, -⟩ := numIn_rd hq.2.2.2.2.2.2.1
    obtain ⟨A7q, c7q, rfl, -⟩ := numIn_rd hq.2.2.2.2.2.2.2
    have HP6 := Lib.hid (show PclAt w6 S6 q _ from ⟨A2q, c2q, A4q, c4q, _, _, rfl, hq⟩)
    obtain ⟨W7, hW7⟩ : ∃ W7, W7 = w6.alloc (.cells #[.int .i64 q.ref, .string q.nm, .slice A2q 2 c2q, .slice none 0 0, .slice A4q q.box.length c4q, .int .i64 q.ticks, .slice A6q q.ws.length c6q, .slice A7q q.ls.length c7q] 82) := ⟨_, rfl⟩
    have hf7 : Fr (fun _ => False) w6 W7 := by rw [hW7]; exact (Fr.refl _ _).alloc _
    have HZ7 := Lib.hid (show CellsN W7 w6.heap.size [.int .i64 q.ref, .string q.nm, .slice A2q 2 c2q, .slice none 0 0, .slice A4q q.box.length c4q, .int .i64 q.ticks, .slice A6q q.ws.length c6q, .slice A7q q.ls.length c7q] by rw [hW7]; exact cellsN_new w6 _ _)
    have HP7 := Lib.hid (HP6.out.fr (S' := S6) hf7 (fun _ _ h => h) (fun _ h => h))
    have HTW7 := Lib.hid (HTW6.out.new hf7)
    have HF7 := Lib.hid (HF6.out.trans' (hf7.weak (S2 := fun k => w1.heap.size ≤ k) (fun _ h => h.elim)))
    have HBR := Lib.hid (bring_any HTW7.out.n2 q _ S6 HP7.out (HPO.out.br (fuelN f)) (by show 0 + 201 * 0 + 201 ≤ 10000000000; omega) (by omega))
    have HPB := Lib.hid (pcl_back HPO.out (fuelN f))
    have HZL := Lib.hid (show w6.heap.size < W7.heap.size from HZ7.out.2.2)
    have HW7 := Lib.hid hW7
    generalize hNB : bringN (newN 1 L1 (fuelN f)) q ls0 pos kid = NB at *
    have HNB := Lib.hid hNB
    clear hq hg6 hn6 hSl hSm HTK HTW6 HP6 HTW5 hW7 hf7 hNB c0 HF5
    go_wp2_with fail
    rw [← HW7.out]
    have z0 := HZ7.out.1 0 _ rfl
    have z1 := HZ7.out.1 1 _ rfl
    have z2 := HZ7.out.1 2 _ rfl
    have z3 := HZ7.out.1 3 _ rfl
    have z4 := HZ7.out.1 4 _ rfl
    have z5 := HZ7.out.1 5 _ rfl
    have z6 := HZ7.out.1 6 _ rfl
    have z7 := HZ7.out.1 7 _ rfl
    go_wp2_with fail
    refine HBR.out.mono ?_
    rintro e w8 ⟨rfl, P8, X8, M8, hg8, hn8⟩
    have HTW8 := Lib.hid (HTW7.out.sym.call hg8 hn8).sym
    have hdr : ∀ k, M8 k → M' k ∨ W7.heap.size ≤ k := hg8.ms
    have HM8 := Lib.hid hdr
    have HG8 := Lib.hid hg8.fr
    have HP8 := Lib.hid (HP7.out.fr (S' := S6) hg8.fr (fun k hk hm => by
      have := (HSL.out k hk).1
      have := HM6.out k hm
      omega) (fun _ h => h))
    have HZ8 := Lib.hid (HZ7.out.fr hg8.fr (fun hm => by
      have := HM6.out _ hm
      have := HB6.out
      omega))
    have HF8 := Lib.hid (HF7.out.trans' (hg8.fr.weak (S2 := fun k => w1.heap.size ≤ k) (fun k hk => (HTW7.out.n2.2.2.1 k hk).2)))
    have HRF := Lib.hid (refs_any HTW8.out.n1)
    rw [← refsN_len] at HRF
    have hr60 : (refsN (dropN N q.ref)).length ≤ 60 := by rw [refsN_len]; exact HTW8.out.n1.ok.len
    generalize refsN (dropN N q.ref) = R at *
    have hs78 := hg8.fr.size
    clear hg8 hn8 HBR HTW7 hdr z0 z1 z2 z3 z4 z5 z6 z7
    go_wp2_with fail
    refine HRF.out.mono ?_
    rintro e w9 ⟨A9, c9, rfl, hO9, hb9⟩
    have HCT := Lib.hid (containsI_any A9 R.length c9 (lst R) q.ref w9 (by omega) hO9.rd)
    rw [any_lst, decide_eq_false HND.out] at HCT
    have HF89 := Lib.hid (Fr.of_below (S := fun _ => False) hb9)
    clear hO9 hb9 HRF
    go_wp2_with fail
    refine HCT.out.mono ?_
    rintro e w9' ⟨rfl, rfl⟩
    have HTW9 := Lib.hid (HTW8.out.new HF89.out)
    have HTK2 := Lib.hid (take_any HTW9.out.n2 HPB.out.2.1 rfl HWF.out)
    rw [HPB.out.1] at HTK2
    clear HCT HND HTW8
    go_wp2_with fail
    refine HTK2.out.mono ?_
    rintro e w10 ⟨cs2, X10, M10, rfl, hp10, hg10, hn10⟩
    obtain ⟨S7, hp10, hTl⟩ : ∃ S7 : Nat → Prop, PclAt w10 S7 q cs2 ∧ (∀ b, S7 b → b < w10.heap.size) := ⟨_, hp10, fun b h => h.2.1⟩
    have HTL := Lib.hid hTl
    have HSZ := Lib.hid (show w5.heap.size ≤ w6.heap.size ∧ w6.heap.size < W7.heap.size ∧ W7.heap.size ≤ w8.heap.size ∧ w8.heap.size ≤ w9.heap.size ∧ w9.heap.size ≤ w10.heap.size from ⟨HB6.out.2, HZL.out, hs78, HF89.out.size, hg10.fr.size⟩)
    have hno : ∀ k, w5.heap.size ≤ k → k ≤ w6.heap.size → ¬ M8 k := fun k h1 h2 hm => by
      have := HSZ.out
      rcases HM8.out k hm with h | h
      · have := HM6.out k h
        omega
      · omega
    have hF9 := HF8.out.trans' (HF89.out.weak (S2 := fun k => w1.heap.size ≤ k) (fun _ h => h.elim))
    have HF10 := Lib.hid (hF9.trans' (hg10.fr.weak (S2 := fun k => w1.heap.size ≤ k) (fun k hk => (HTW9.out.n2.2.2.1 k hk).2)))
    have HP10 := Lib.hid ((HP8.out.fr (S' := S6) HF89.out (fun _ _ h => h) (fun _ h => h)).fr (S' := S6) hg10.fr (fun k hk => hno k (HSL.out k hk).1 (by have := (HSL.out k hk).2; omega)) (fun _ h => h))
    have HZ10 := Lib.hid ((HZ8.out.fr HF89.out (fun h => h)).fr hg10.fr (hno _ HSZ.out.1 (Nat.le_refl _)))
    obtain ⟨A2r, c2r, A4r, c4r, v6, v7, rfl, hr⟩ := hp10
    obtain ⟨A6r, c6r, rfl, -⟩ := numIn_rd hr.2.2.2.2.2.2.1
    obtain ⟨A7r, c7r, rfl, -⟩ := numIn_rd hr.2.2.2.2.2.2.2
    have HQ10 := Lib.hid (show PclAt w10 S7 q _ from ⟨A2r, c2r, A4r, c4r, _, _, rfl, hr⟩)
    obtain ⟨W11, hW11⟩ : ∃ W11, W11 = w10.alloc (.cells #[.int .i64 q.ref, .string q.nm, .slice A2r 2 c2r, .slice none 0 0, .slice A4r q.box.length c4r, .int .i64 q.ticks, .slice A6r q.ws.length c6r, .slice A7r q.ls.length c7r] 82) := ⟨_, rfl⟩
    have hf11 : Fr (fun _ => False) w10 W11 := by rw [hW11]; exact (Fr.refl _ _).alloc _
    have HY11 := Lib.hid (show CellsN W11 w10.heap.size [.int .i64 q.ref, .string q.nm, .slice A2r 2 c2r, .slice none 0 0, .slice A4r q.box.length c4r, .int .i64 q.ticks, .slice A6r q.ws.length c6r, .slice A7r q.ls.length c7r] by rw [hW11]; exact cellsN_new w10 _ _)
    have HZ11 := Lib.hid (HZ10.out.fr hf11 (fun h => h))
    have HP11 := Lib.hid (HP10.out.fr (S' := S6) hf11 (fun _ _ h => h) (fun _ h => h))
    have HQ11 := Lib.hid (HQ10.out.fr (S' := S7) hf11 (fun _ _ h => h) (fun _ h => h))
    have HF11 := Lib.hid (HF10.out.trans' (hf11.weak (S2 := fun k => w1.heap.size ≤ k) (fun _ h => h.elim)))
    have HPP := Lib.hid HP11.out.parts
    have HQQ := Lib.hid HQ11.out.parts
    have HSM := Lib.hid (sameLs_self (c := c4r) (d := c4q) (w := W11) (by have := HPP.out.2.2.2.2; omega) HQQ.out.2.1 HPP.out.2.1)
    have HE1 := Lib.hid (fun (W9 : World) (hf : Fr (fun _ => False) W11 W9) => show Calls Tryz.prog 30 #[.slice A6r q.ws.length c6r, .slice A6q q.ws.length c6q] W9 fun e w' => e = .returned (.bool true) ∧ Below W9.heap.size W9 w' from by
      obtain ⟨A, c, e1, g1, g2, -, R1⟩ := numIn_rd (HQQ.out.2.2.1.fr hf (fun _ _ h => h) (B' := S7) (fun _ h => h))
      obtain ⟨A', c', e1', g1', g2', -, R2⟩ := numIn_rd (HPP.out.2.2.1.fr hf (fun _ _ h => h) (B' := S6) (fun _ h => h))
      injection e1 with e1 _ e2
      injection e1' with e1' _ e2'
      subst e1 e2 e1' e2'
      exact equalI_same _ _ _ _ _ _ (lst q.ws) (lst q.ws) W9 rfl (by omega) R1 R2 (fun _ _ => rfl))
    have HE2 := Lib.hid (fun (W9 : World) (hf : Fr (fun _ => False) W11 W9) => show Calls Tryz.prog 30 #[.slice A7r q.ls.length c7r, .slice A7q q.ls.length c7q] W9 fun e w' => e = .returned (.bool true) ∧ Below W9.heap.size W9 w' from by
      obtain ⟨A, c, e1, g1, g2, -, R1⟩ := numIn_rd (HQQ.out.2.2.2.1.fr hf (fun _ _ h => h) (B' := S7) (fun _ h => h))
      obtain ⟨A', c', e1', g1', g2', -, R2⟩ := numIn_rd (HPP.out.2.2.2.1.fr hf (fun _ _ h => h) (B' := S6) (fun _ h => h))
      injection e1 with e1 _ e2
      injection e1' with e1' _ e2'
      subst e1 e2 e1' e2'
      exact equalI_same _ _ _ _ _ _ (lst q.ls) (lst q.ls) W9 rfl (by omega) R1 R2 (fun _ _ => rfl))
    have HW11 := Lib.hid hW11
    clear hr hg10 hn10 hTl hno hF9 hf11 hW11 HTK2 HP10 HQ10 HP8 HZ8 HF8 HF10 HZ7 HP7 HF7 HF6 HM6 HB6 HTW9 HG8 HM8 HZL hs78
    have z0 := HZ10.out.1 0 _ rfl
    have z3 := HZ10.out.1 5 _ rfl
    have z2 := HZ10.out.1 4 _ rfl
    have zl := HZ10.out.2.2
    go_wp2_with fail
    rw [← HW11.out]
    clear z0 z3 z2 zl HZ10
    have z4 := HZ11.out.1 6 _ rfl
    have z5 := HZ11.out.1 7 _ rfl
    have y4 := HY11.out.1 6 _ rfl
    have y5 := HY11.out.1 7 _ rfl
    have zl := HZ11.out.2.2
    have yl := HY11.out.2.2
    refine HSM.out.mono ?_
    rintro e w12 ⟨rfl, hb12⟩
    have HF12 := Lib.hid (Fr.of_below (S := fun _ => False) hb12)
    have z4 := HF12.out.cell z4 (fun h => h)
    have z5 := HF12.out.cell z5 (fun h => h)
    have y4 := HF12.out.cell y4 (fun h => h)
    have y5 := HF12.out.cell y5 (fun h => h)
    have zl := Nat.lt_of_lt_of_le zl HF12.out.size
    have yl := Nat.lt_of_lt_of_le yl HF12.out.size
    clear hb12 HSM
    go_wp2_with fail
    refine (HE1.out w12 HF12.out).mono ?_
    rintro e w13 ⟨rfl, hb13⟩
    have HF13 := Lib.hid (HF12.out.trans' (Fr.of_below (S := fun _ => False) hb13))
    have z5 := (Fr.of_below (S := fun _ => False) hb13).cell z5 (fun h => h)
    have y5 := (Fr.of_below (S := fun _ => False) hb13).cell y5 (fun h => h)
    have zl := Nat.lt_of_lt_of_le zl hb13.size
    have yl := Nat.lt_of_lt_of_le yl hb13.size
    clear hb13 HE1
    go_wp2_with fail
    refine (HE2.out w13 HF13.out).mono ?_
    rintro e w14 ⟨rfl, hb14⟩
    have HF14 := Lib.hid (HF13.out.trans' (Fr.of_below (S := fun _ => False) hb14))
    have HF1E := Lib.hid (HF11.out.trans' (HF14.out.weak (S2 := fun k => w1.heap.size ≤ k) (fun _ h => h.elim)))
    have HP14 := Lib.hid (HP11.out.fr (S' := S6) HF14.out (fun _ _ h => h) (fun _ h => h))
    have HQ14 := Lib.hid (HQ11.out.fr (S' := S7) HF14.out (fun _ _ h => h) (fun _ h => h))
    have HZ14 := Lib.hid (HZ11.out.fr HF14.out (fun h => h))
    have HY14 := Lib.hid (HY11.out.fr HF14.out (fun h => h))
    have HLT := Lib.hid (show w6.heap.size < w10.heap.size ∧ w10.heap.size < w14.heap.size from ⟨by have := HSZ.out; omega, by have := HF14.out.size; have := HY11.out.2.2; omega⟩)
    clear hb14 HE2 HF12 HF13 HF14 HPP HQQ HF11 HP11 HQ11 HZ11 HY11 z4 z5 y4 y5 zl yl
    have HBX := Lib.hid (begun_any (fun _ => False) w1.heap.size A1 c1 L1 f (.slice none 0 0) [] w14 (fun _ h => h.elim) HF1E.out.size (HSC.out w14 HF1E.out) HLW.out (argDds_nil w14))
    have e0 : begunN L1 f [] = newN 1 L1 (fuelN f) := rfl
    rw [e0] at HBX
    clear e0
    go_wp2_with fail
    refine HBX.out.mono ?_
    rintro e w15 ⟨px, Px, Xx, Mx, rfl, hf15, -, -, hMx, hn15, -⟩
    have HF15 := Lib.hid (HF1E.out.trans' (hf15.weak (S2 := fun k => w1.heap.size ≤ k) (fun _ h => h.elim)))
    have HBY := Lib.hid (begun_any Xx w1.heap.size A1 c1 L1 f (.slice none 0 0) [] w15 hn15.xlt HF15.out.size (HSC.out w15 HF15.out) HLW.out (argDds_nil w15))
    have e0 : begunN L1 f [] = newN 1 L1 (fuelN f) := rfl
    rw [e0] at HBY
    have HN15 := Lib.hid hn15
    have HE15 := Lib.hid hf15
    have HMX := Lib.hid hMx
    clear e0 hn15 hf15 hMx HBX
    go_wp2_with fail
    refine HBY.out.mono ?_
    rintro e w16 ⟨py, Py, Xy, My, rfl, hf16, hXx, -, hMy, hn16, -⟩
    have HTX := Lib.hid (two_begun HN15.out hf16 hXx hMy hn16 (Nat.le_trans HF15.out.size hf16.size))
    have hE16 := HE15.out.trans' hf16
    have HMY := Lib.hid (show (∀ k, Mx k → w14.heap.size ≤ k) ∧ ∀ k, My k → w14.heap.size ≤ k from ⟨HMX.out, fun k hk => Nat.le_trans HE15.out.size (hMy k hk)⟩)
    have HF16 := Lib.hid (HF15.out.trans' (hf16.weak (S2 := fun k => w1.heap.size ≤ k) (fun _ h => h.elim)))
    have HP16 := Lib.hid (HP14.out.fr (S' := S6) hE16 (fun _ _ h => h) (fun _ h => h))
    have HQ16 := Lib.hid (HQ14.out.fr (S' := S7) hE16 (fun _ _ h => h) (fun _ h => h))
    have HZ16 := Lib.hid (HZ14.out.fr hE16 (fun h => h))
    have HY16 := Lib.hid (HY14.out.fr hE16 (fun h => h))
    have HBRX := Lib.hid (bring_any HTX.out.n1 q _ S6 HP16.out (HPO.out.br (fuelN f)) (by show 0 + 201 * 0 + 201 ≤ 10000000000; omega) (by omega))
    rw [HNB.out] at HBRX
    have z0 := HZ16.out.1 0 _ rfl
    have z1 := HZ16.out.1 1 _ rfl
    have z2 := HZ16.out.1 2 _ rfl
    have z3 := HZ16.out.1 3 _ rfl
    have z4 := HZ16.out.1 4 _ rfl
    have z5 := HZ16.out.1 5 _ rfl
    have z6 := HZ16.out.1 6 _ rfl
    have z7 := HZ16.out.1 7 _ rfl
    have zl := HZ16.out.2.2
    clear hf16 hXx hMy hn16 hE16 HBY HN15 HE15 HMX HP14 HQ14 HZ14 HY14 HF1E HF15
    go_wp2_with fail
    refine HBRX.out.mono ?_
    rintro e w17 ⟨rfl, P17, X17, M17, hg17, hn17⟩
    have HTY := Lib.hid (HTX.out.call hg17 hn17)
    have hno : ∀ k, k < w14.heap.size → ¬ Mx k := fun k h1 hm => by
      have := HMY.out.1 k hm
      omega
    have HQ17 := Lib.hid (HQ16.out.fr (S' := S7) hg17.fr (fun k hk => hno k (by have := HTL.out k hk; have := HLT.out; omega)) (fun _ h => h))
    have HY17 := Lib.hid (HY16.out.fr hg17.fr (hno _ HLT.out.2))
    have HF17 := Lib.hid (HF16.out.trans' (hg17.fr.weak (S2 := fun k => w1.heap.size ≤ k) (fun k hk => (HTX.out.n1.2.2.1 k hk).2)))
    have HBRY := Lib.hid (bring_any HTY.out.n2 q _ S7 HQ17.out (HPO.out.br (fuelN f)) (by show 0 + 201 * 0 + 201 ≤ 10000000000; omega) (by omega))
    rw [HNB.out] at HBRY
    clear z0 z1 z2 z3 z4 z5 z6 z7 zl hg17 hn17 hno HBRX HP16 HQ16 HZ16 HY16 HF16 HTX
    have z0 := HY17.out.1 0 _ rfl
    have z1 := HY17.out.1 1 _ rfl
    have z2 := HY17.out.1 2 _ rfl
    have z3 := HY17.out.1 3 _ rfl
    have z4 := HY17.out.1 4 _ rfl
    have z5 := HY17.out.1 5 _ rfl
    have z6 := HY17.out.1 6 _ rfl
    have z7 := HY17.out.1 7 _ rfl
    have zl := HY17.out.2.2
    go_wp2_with fail
    refine HBRY.out.mono ?_
    rintro e w18 ⟨rfl, P18, X18, M18, hg18, hn18⟩
    have HTZ := Lib.hid (HTY.out.sym.call hg18 hn18).sym
    have HF18 := Lib.hid (HF17.out.trans' (hg18.fr.weak (S2 := fun k => w1.heap.size ≤ k) (fun k hk => (HTY.out.n2.2.2.1 k hk).2)))
    have HTK9 := Lib.hid HPB.out.2.2
    have hML : mo.length ≤ 9223372036854775807 := by
      obtain ⟨_, _, e, g1, g2, _⟩ := HMO.out
      omega
    have HRDM := Lib.hid (show Rd W 4 (fun k => ddC (nthDd mo k)) A4 mo.length from by
      obtain ⟨_, _, e, _, _, h, _⟩ := HMO.out
      injection e with e1 _ _
      subst e1
      exact h)
    have HDW := Lib.hid (show ∀ k, k < mo.length → DdWf (nthDd mo k) from by
      obtain ⟨_, _, e, _, _, _, h⟩ := HMO.out
      exact h)
    clear z0 z1 z2 z3 z4 z5 z6 z7 zl hg18 hn18 HBRY HQ17 HY17 HTY HF17 HPB HNB HPO HMY HLT HTL HSL HWF HW11 HW7 HF89 HSZ HSC hp6 hp10
    go_wp2_with fail
    go_loopw [21, 22, 146] (fun _ _ v146 wr => ∃ (i : Nat) (Pi Qi : Int → Nat) (Xi Mi Yi Ki : Nat → Prop), i ≤ mo.length ∧ v146 = .int .i64 (i : Int) ∧ Hid (Two wr w1.heap.size (10000000000 + 100000000 * min i 20) (10000000000 + 100000000 * min i 20) px py Pi Qi Xi Mi Yi Ki (moreI NB mo 20 i) (moreI NB mo 20 i)) ∧ Hid (AllA TkOk (moreI NB mo 20 i)) ∧ Hid (Fr (fun k => w1.heap.size ≤ k) w1 wr)) (fun _ _ v146 _ => mo.length - (intOf v146).toNat)
    case atStart => exact ⟨0, P17, P18, _, _, _, _, Nat.zero_le _, rfl, HTZ, HTK9, HF18⟩
    case round =>
      obtain ⟨w5', hw5'⟩ : ∃ w5' : World, w5' = wr := ⟨_, rfl⟩
      subst hw5'
      obtain ⟨i, Pi, Qi, Xi, Mi, Yi, Ki, hi, rfl, HTi, HIi, HFi⟩ := hrel
      have hlim4 : min i 20 ≤ 20 := Nat.min_le_right _ _
      by_cases hlt : i < mo.length
      · obtain ⟨bd, od, rfl, hbl, hcell⟩ := HRDM.out (by omega)
        have hfr : Fr (fun k => W.heap.size ≤ k) W w5' := HF1.out.trans' (HFi.out.weak (S2 := fun k => W.heap.size ≤ k) (fun k hk => Nat.le_trans HF1.out.size hk))
        have hnb : ¬ W.heap.size ≤ bd := by omega
        obtain ⟨d, hd⟩ : ∃ d, nthDd mo i = d := ⟨_, rfl⟩
        have hc := hcell i hlt
        have hdwi := HDW.out i hlt
        dsimp only at hc
        rw [hd] at hc hdwi
        have c0 : w5'.cell? ⟨bd, od + i * 4, none⟩ = some (.int .i64 d.kind) := hfr.cell (hc 0 _ rfl) hnb
        have c1 : w5'.cell? ⟨bd, od + i * 4 + 1, none⟩ = some (.int .i64 d.n) := hfr.cell (hc 1 _ rfl) hnb
        have c2 : w5'.cell? ⟨bd, od + i * 4 + 2, none⟩ = some (.int .i64 d.ref) := hfr.cell (hc 2 _ rfl) hnb
        have c3 : w5'.cell? ⟨bd, od + i * 4 + 3, none⟩ = some (.int .i64 d.num) := hfr.cell (hc 3 _ rfl) hnb
        have hbr : bd < w5'.heap.size := Nat.lt_of_lt_of_le hbl hfr.size
        have j1 : (0 : Int) ≤ (i : Int) := by omega
        have j2 : (i : Int) < (mo.length : Int) := by omega
        have HD := Lib.hid hd
        have HDI := Lib.hid hdwi
        clear hcell hc hfr hnb hd hdwi
        by_cases h4 : i < 20
        · have HUP := Lib.hid (moreI_up (N := NB) (l := mo) hlt h4)
          rw [HD.out] at HUP
          have HIU := Lib.hid (doN_all tk_inv HIi.out d)
          rw [← HUP.out] at HIU
          obtain ⟨W6, hW6⟩ : ∃ W6, W6 = w5'.alloc (.cells #[.int .i64 d.kind, .int .i64 d.n, .int .i64 d.ref, .int .i64 d.num] 69) := ⟨_, rfl⟩
          have hf6 : Fr (fun _ => False) w5' W6 := by rw [hW6]; exact (Fr.refl _ _).alloc _
          have HB6 := Lib.hid (show CellsN W6 w5'.heap.size [.int .i64 d.kind, .int .i64 d.n, .int .i64 d.ref, .int .i64 d.num] by rw [hW6]; exact cellsN_new w5' _ _)
          have HT6 := Lib.hid (HTi.out.new hf6)
          have HDO := Lib.hid (do_any HT6.out.n1 HIi.out d HDI.out (by omega))
          rw [← HUP.out] at HDO
          unfold ddC at HDO
          have HW6 := Lib.hid hW6
          have HF6 := Lib.hid hf6
          have g4 : decide ((i : Int) < 20) = true := decide_eq_true (by omega)
          clear hW6 hf6
          go_wp2_with fail
          rw [← HW6.out]
          refine HDO.out.mono ?_
          rintro e w7 ⟨rfl, P7, X7, M7, hg7, hn7⟩
          have HT7 := Lib.hid (HT6.out.call hg7 hn7)
          have HB7 := Lib.hid (HB6.out.fr hg7.fr (fun hm => by
            have := HTi.out.n1.xlt _ (HTi.out.n1.2.2.1 _ hm).1
            omega))
          have HF7 := Lib.hid ((HFi.out.trans' (HF6.out.weak (S2 := fun k => w1.heap.size ≤ k) (fun _ h => h.elim))).trans' (hg7.fr.weak (S2 := fun k => w1.heap.size ≤ k) (fun k hk => (HT6.out.n1.2.2.1 k hk).2)))
          have HDO2 := Lib.hid (do_any HT7.out.n2 HIi.out d HDI.out (by omega))
          rw [← HUP.out] at HDO2
          unfold ddC at HDO2
          have b0 := HB7.out.1 0 _ rfl
          have b1 := HB7.out.1 1 _ rfl
          have b2 := HB7.out.1 2 _ rfl
          have b3 := HB7.out.1 3 _ rfl
          have bl := HB7.out.2.2
          clear hg7 hn7 HDO
          go_wp2_with fail
          refine HDO2.out.mono ?_
          rintro e w8 ⟨rfl, P8, X8, M8, hg8, hn8⟩
          have HT8 := Lib.hid (HT7.out.sym.call hg8 hn8).sym
          have HF8 := Lib.hid (HF7.out.trans' (hg8.fr.weak (S2 := fun k => w1.heap.size ≤ k) (fun k hk => (HT7.out.n2.2.2.1 k hk).2)))
          clear hg8 hn8 HDO2 b0 b1 b2 b3 bl
          have hm1 : min (i + 1) 20 = min i 20 + 1 := by omega
          go_wp2_with fail
          go_roundw
          case rel =>
            refine ⟨i + 1, P7, P8, XW X7 w7 w8, M7, X8, M8, by omega, by go_num, Lib.hid ?_, HIU, HF8⟩
            rw [hm1, show 10000000000 + 100000000 * (min i 20 + 1) = 10000000000 + 100000000 * min i 20 + 100000000 by omega]
            exact HT8.out
          case measure => simp [intOf]; omega
        · have HUP := Lib.hid (moreI_same (N := NB) (l := mo) h4)
          have g4 : decide ((i : Int) < 20) = false := decide_eq_false (by omega)
          have hm1 : min (i + 1) 20 = min i 20 := by omega
          clear h4
          go_wp2_with fail
          go_roundw
          case rel =>
            refine ⟨i + 1, Pi, Qi, Xi, Mi, Yi, Ki, by omega, by go_num, Lib.hid ?_, Lib.hid ?_, Lib.hid (HFi.out.trans' ((show Fr (fun _ => False) w5' _ by (repeat' first | with_reducible exact Fr.refl _ _ | (with_reducible refine Fr.setEq ?_ _) | (with_reducible refine Fr.setNew ?_ _) | with_reducible refine Fr.alloc ?_ _ | with_reducible refine Fr.drewN ?_ _ | with_reducible refine Fr.drew ?_)).weak (S2 := fun k => w1.heap.size ≤ k) (fun _ h => h.elim)))⟩
            · rw [hm1, HUP.out]
              exact HTi.out.new (show Fr (fun _ => False) w5' _ by (repeat' first | with_reducible exact Fr.refl _ _ | (with_reducible refine Fr.setEq ?_ _) | (with_reducible refine Fr.setNew ?_ _) | with_reducible refine Fr.alloc ?_ _ | with_reducible refine Fr.drewN ?_ _ | with_reducible refine Fr.drew ?_))
            · rw [HUP.out]
              exact HIi.out
          case measure => simp [intOf]; omega
      · obtain rfl : i = mo.length := by omega
        have j2 : decide ((mo.length : Int) < (mo.length : Int)) = false := decide_eq_false (by omega)
        generalize moreI NB mo 20 mo.length = K at *
        have HSD := Lib.hid (said_any HTi.out.n1 (by omega))
        clear hlt
        go_wp2_with fail
        refine HSD.out.mono ?_
        rintro e w6 ⟨A6, c6, rfl, hO6, hb6⟩
        have HT6 := Lib.hid (HTi.out.new (Fr.of_below hb6))
        have HF6 := Lib.hid (HFi.out.trans' ((Fr.of_below (S := fun _ => False) hb6).weak (S2 := fun k => w1.heap.size ≤ k) (fun _ h => h.elim)))
        have HO6 := Lib.hid hO6
        have HSD2 := Lib.hid (said_any HT6.out.n2 (by omega))
        clear hO6 hb6 HSD
        go_wp2_with fail
        refine HSD2.out.mono ?_
        rintro e w7 ⟨A7, c7, rfl, hO7, hb7⟩
        have HT7 := Lib.hid (HT6.out.new (Fr.of_below hb7))
        have HF7 := Lib.hid (HF6.out.trans' ((Fr.of_below (S := fun _ => False) hb7).weak (S2 := fun k => w1.heap.size ≤ k) (fun _ h => h.elim)))
        have HEQ := Lib.hid (equalSd_same A6 A7 K.said.length K.said.length c6 c7 K.said w7 rfl rfl (by
          obtain ⟨_, _, e, g1, g2, _⟩ := own_any hO7
          omega) (OwnSd.rd (HO6.out.below hb7)).2 (OwnSd.rd hO7).2)
        clear hO7 hb7 HSD2 HO6
        go_wp2_with fail
        refine HEQ.out.mono ?_
        rintro e w8 ⟨rfl, hb8⟩
        have HT8 := Lib.hid (HT7.out.new (Fr.of_below hb8))
        have HF8 := Lib.hid (HF7.out.trans' ((Fr.of_below (S := fun _ => False) hb8).weak (S2 := fun k => w1.heap.size ≤ k) (fun _ h => h.elim)))
        have HR1 := Lib.hid (refs_any HT8.out.n1)
        clear hb8 HEQ HT6 HF6 HT7 HF7 HTi HFi
        go_wp2_with fail
        refine HR1.out.mono ?_
        rintro e w9 ⟨A9, c9, rfl, hO9, hb9⟩
        have HT9 := Lib.hid (HT8.out.new (Fr.of_below hb9))
        have HF9 := Lib.hid (HF8.out.trans' ((Fr.of_below (S := fun _ => False) hb9).weak (S2 := fun k => w1.heap.size ≤ k) (fun _ h => h.elim)))
        have HO9 := Lib.hid hO9
        have HR2 := Lib.hid (refs_any HT9.out.n2)
        clear hO9 hb9 HR1
        go_wp2_with fail
        refine HR2.out.mono ?_
        rintro e w10 ⟨A10, c10, rfl, hO10, hb10⟩
        have HT10 := Lib.hid (HT9.out.new (Fr.of_below hb10))
        have HF10 := Lib.hid (HF9.out.trans' ((Fr.of_below (S := fun _ => False) hb10).weak (S2 := fun k => w1.heap.size ≤ k) (fun _ h => h.elim)))
        have HEQ := Lib.hid (equalI_own (refsN_len K).symm ((Fr.of_below (S := fun _ => False) hb10).row HO9.out (fun _ _ h => h)) hO10 (by
          rw [refsN_len]
          have := HT10.out.n1.ok.len
          omega))
        clear hO10 hb10 HR2 HO9 HT8 HF8 HT9 HF9
        go_wp2_with fail
        refine HEQ.out.mono ?_
        rintro e w11 ⟨rfl, hb11⟩
        have HT11 := Lib.hid (HT10.out.new (Fr.of_below hb11))
        have HF11 := Lib.hid (HF10.out.trans' ((Fr.of_below (S := fun _ => False) hb11).weak (S2 := fun k => w1.heap.size ≤ k) (fun _ h => h.elim)))
        have HU1 := Lib.hid (out_any2 HT11.out.n1)
        clear hb11 HEQ HT10 HF10
        go_wp2_with fail
        refine HU1.out.mono ?_
        rintro e w12 ⟨A12, c12, S12, M12, rfl, gl1, gl2, hrd, hS, hg12, hn12⟩
        have HT12 := Lib.hid (HT11.out.call hg12 hn12)
        have HRD := Lib.hid hrd
        have HS12 := Lib.hid (show ∀ k, S12 k → ¬ Ki k from fun k hk hm => by
          rcases hS k hk with h | h
          · exact h (HT11.out.a21.sub k hm).1
          · exact HT11.out.a12.dis k h hm)
        have HF12 := Lib.hid (HF11.out.trans' (hg12.fr.weak (S2 := fun k => w1.heap.size ≤ k) (fun k hk => (HT11.out.n1.2.2.1 k hk).2)))
        have HU2 := Lib.hid (out_any2 HT12.out.n2)
        clear hrd hS hg12 hn12 HU1
        go_wp2_with fail
        refine HU2.out.mono ?_
        rintro e w13 ⟨A13, c13, S13, M13, rfl, gm1, gm2, hrd13, -, hg13, -⟩
        have HF13 := Lib.hid (HF12.out.trans' (hg13.fr.weak (S2 := fun k => w1.heap.size ≤ k) (fun k hk => (HT12.out.n2.2.2.1 k hk).2)))
        have HSM := Lib.hid (sameLs_self (c := c12) (d := c13) (by omega) (HRD.out.frame (S' := S12) hg13.fr.size (fun b hb hlt => ⟨hb, hg13.fr.block b hlt (HS12.out b hb)⟩)) hrd13)
        clear hrd13 hg13 HU2
        go_wp2_with fail
        refine HSM.out.mono ?_
        rintro e w14 ⟨rfl, hb14⟩
        have HF14 := Lib.hid (HF13.out.trans' ((Fr.of_below (S := fun _ => False) hb14).weak (S2 := fun k => w1.heap.size ≤ k) (fun _ h => h.elim)))
        clear hb14 HSM
        go_wp2_with fail
        refine bodyPost_ret (v := .bool true) (by simp [results, Tryz.results13, go_sem]) rfl ⟨rfl, HEND.out _ HF14.out⟩
end Go.Proofs.YtjjfglbcikaicaaGreat
