/- A node as data, and what its methods make of it. Maps from numbers to anything, with their exact size: look, store, delete, range. How a node lies in memory. A call of one argument at a step of a region that draws its order. A diary: record. A diary: Give, Late, Offer. A diary: Offer. A diary: Run. -/
import Derived.Test.YtjjfglbcikaicaaGreatMA
import Derived.Test.YtjjfglbcikaicaaGreatMB
import Derived.Test.YtjjfglbcikaicaaGreatMC
import Derived.Test.YtjjfglbcikaicaaGreatFr
import Derived.Maps.OwnSet
import Derived.Maps.RangeWalk
import Derived.Test.YtjjfglbcikaicaaGreatKeep
import Derived.Deep.RegionHeld3
import Derived.Deep.AppendLies
import Derived.Deep.RegionLaw
import Derived.Deep.DeepCutAuto
namespace Go.Proofs.YtjjfglbcikaicaaGreat
open Go.RowKit
set_option linter.unusedVariables false
/-- a diary: what it writes down of a runner -/
structure DiaS where
  nm : ByteArray
  l : List Stp
  r : RunS
  dk : Int
  dn : Int
/-- an actor -/
structure ActS where
  ref : Int
  d : DiaS
  box : List LT
  pos : Nat
  waits : Bool
  ticks : Int
  knows : Int → Bool
structure NdS where
  id : Int
  fuel : Nat
  scr : List (List Stp)
  acts : List ActS
  rows : List Li.LR
  homes : Int → Option Int
  spawned : Nat
  last : Int
  out : List LT
  said : List (Int × Int)
/-- the references of a value -/
def refsV : VT → Int → Bool
  | .none, _ => false
  | .node k m _ n arg, x => (k == 6 && x == m) || anyOf (fun i => refsV (arg i) x) n
def vLeaf (k m : Int) : VT := .node k m ⟨#[]⟩ 0 (fun _ => .none)
def zLT : LT := ⟨0, 0, 0, 0, ⟨#[]⟩, vLeaf 0 0⟩
def vkind : VT → Int
  | .none => 0
  | .node k _ _ _ _ => k
def vnum : VT → Int
  | .none => 0
  | .node _ m _ _ _ => m
/-- the diary goes on -/
def runD (fuel : Nat) (d : DiaS) : DiaS × OutS :=
  let p := runR d.l fuel d.r
  (if p.2.kind = 1 then { d with r := p.1 } else { d with r := p.1, dk := p.2.kind, dn := p.2.num }, p.2)
def giveD (d : DiaS) (x : Int) : DiaS := if d.dk = 4 then { d with r := giveR d.r x, dk := 0, dn := 0 } else d
def offerD (d : DiaS) (v : VT) : DiaS × Bool :=
  if d.dk = 7 then
    let p := offerR d.l d.r (vkind v) (vnum v)
    if p.2 then ({ d with r := p.1, dk := 0, dn := 0 }, true) else (d, false)
  else (d, false)
def lateD (d : DiaS) : DiaS := if d.dk = 7 ∧ 0 ≤ d.dn then { d with r := lateR d.r, dk := 0, dn := 0 } else d
/-- the first letter from a place on that is taken -/
def pickI (d : DiaS) (box : List LT) : Nat → Nat → Option Nat
  | 0, _ => none
  | f + 1, i => if box.length ≤ i then none else if (offerD d (box.getD i zLT).says).2 then some i else pickI d box f (i + 1)
def wakeA (a : ActS) : ActS × Bool :=
  match pickI a.d a.box (a.box.length + 1) a.pos with
  | some i => ({ a with d := (offerD a.d (a.box.getD i zLT).says).1, box := a.box.eraseIdx i, pos := 0, waits := false, knows := fun x => a.knows x || refsV (a.box.getD i zLT).says x }, true)
  | none => if a.ticks = 0 then ({ a with d := lateD a.d, pos := a.box.length, waits := false }, true) else ({ a with pos := a.box.length }, false)
def waitA (a : ActS) (n : Int) : ActS := { a with waits := true, ticks := n, pos := 0, knows := fun x => x == a.d.r.kid }
def canA (a : ActS) : Bool := !a.waits || decide (a.pos < a.box.length) || decide (a.ticks = 0)
namespace NdS
def find (N : NdS) (r : Int) : Option ActS := N.acts.find? fun a => a.ref == r
def has (N : NdS) (r : Int) : Bool := (N.find r).isSome
def setA (N : NdS) (a : ActS) : NdS := { N with acts := N.acts.map fun b => if b.ref == a.ref then a else b }
def delA (N : NdS) (r : Int) : NdS := { N with acts := N.acts.filter fun a => !(a.ref == r) }
end NdS
def insA (a : ActS) : List ActS → List ActS
  | [] => [a]
  | b :: l => if a.ref < b.ref then a :: b :: l else b :: insA a l
/-- rows -/
def rowL (rows : List Li.LR) (ref : Int) : Option Li.LR := rows.find? fun r => r.ref == ref
def addL : List Li.LR → Int → List Li.LR
  | [], ref => [⟨ref, [], []⟩]
  | b :: l, ref => if ref < b.ref then ⟨ref, [], []⟩ :: b :: l else b :: addL l ref
/-- a row more, if there may be one -/
def addR (rows : List Li.LR) (ref : Int) : List Li.LR := if ref < 1 ∨ (rowL rows ref).isSome = true ∨ rows.length = 100 then rows else addL rows ref
def watchL (rows : List Li.LR) (x ref : Int) : List Li.LR := rows.map fun r => if r.ref == ref && decide (r.ws.length ≠ 100) then { r with ws := r.ws ++ [x] } else r
def linkL (rows : List Li.LR) (ref x : Int) : List Li.LR := rows.map fun r => if r.ref == ref && !r.ls.contains x && decide (r.ls.length ≠ 100) then { r with ls := r.ls ++ [x] } else r
def goneL (rows : List Li.LR) (ref : Int) : List Li.LR := rows.filter fun r => !(r.ref == ref)
def downLT (ref dst num : Int) (text : ByteArray) : LT := ⟨2, ref, dst, num, text, vLeaf 0 0⟩
def exitLT (ref dst : Int) (text : ByteArray) : LT := ⟨5, ref, dst, 0, text, vLeaf 0 0⟩
def noneS : ByteArray := ⟨#[110, 111, 110, 101]⟩
/-- the letters about an end -/
def tellL (rows : List Li.LR) (ref : Int) (failed : Bool) (text : ByteArray) : List LT :=
  match rowL rows ref with
  | none => []
  | some r => r.ws.map (fun w => downLT ref w (if failed then 1 else 0) (if failed then text else ⟨#[]⟩)) ++ (if failed then r.ls.map (fun x => exitLT ref x text) else [])
def linkedL (rows : List Li.LR) (ref dst : Int) : Bool := match rowL rows ref with
  | none => false
  | some r => r.ls.contains dst
/-- the reply for nobody -/
def noneL (x : LT) : Option LT := if x.kind = 3 then some (downLT x.to x.frm 2 ⟨#[]⟩) else if x.kind = 4 then some (exitLT x.to x.frm noneS) else none
def locN (N : NdS) (ref : Int) : Int :=
  let at_ := (N.homes ref).getD (ref.tdiv 1000)
  if at_ < 1 ∨ 8 < at_ then N.id else at_
def putBox (a : ActS) (x : LT) : ActS := if a.box.length = 60 then a else { a with box := a.box ++ [x] }
/-- a letter comes to one of this node; rem: how one is removed -/
def deliverW (rem : NdS → Int → ByteArray → NdS) (N : NdS) (x : LT) : NdS :=
  if x.kind = 1 ∨ x.kind = 2 then
    match N.find x.to with
    | none => N
    | some a => N.setA (putBox a x)
  else if x.kind = 3 then { N with rows := watchL N.rows x.frm x.to }
  else if x.kind = 4 then { N with rows := linkL N.rows x.to x.frm }
  else if x.kind = 5 then if linkedL N.rows x.to x.frm then rem N x.to x.text else N
  else N
/-- a letter is sent that nobody answers -/
def send1W (rem : NdS → Int → ByteArray → NdS) (N : NdS) (x : LT) : NdS :=
  if N.has x.to then deliverW rem N x else if locN N x.to ≠ N.id then { N with out := N.out ++ [x] } else N
def replyW (rem : NdS → Int → ByteArray → NdS) (N : NdS) (x : LT) : NdS :=
  match noneL x with
  | none => N
  | some y => send1W rem N y
def sendW (rem : NdS → Int → ByteArray → NdS) (N : NdS) (x : LT) : NdS :=
  if N.has x.to then deliverW rem N x else if locN N x.to ≠ N.id then { N with out := N.out ++ [x] } else replyW rem N x
/-- one is removed; at most k end on its account -/
def remN : Nat → NdS → Int → Bool → ByteArray → NdS
  | 0, N, _, _, _ => N
  | k + 1, N, ref, failed, text => (tellL N.rows ref failed text).foldl (sendW fun M r t => remN k M r true t) { N.delA ref with rows := goneL N.rows ref }
def rem60 (N : NdS) (r : Int) (t : ByteArray) : NdS := remN 60 N r true t
def deliverN (N : NdS) (x : LT) : NdS := deliverW rem60 N x
def sendN (N : NdS) (x : LT) : NdS := sendW rem60 N x
def replyN (N : NdS) (x : LT) : NdS := replyW rem60 N x
/-- what Put answers -/
def putN (N : NdS) (x : LT) : NdS × Int :=
  if x.kind < 1 ∨ 5 < x.kind then (N, 1)
  else match N.find x.to with
    | none => (replyN N x, 4)
    | some a => if (x.kind = 1 ∨ x.kind = 2) ∧ a.box.length = 60 then (N, 6) else (deliverN N x, 0)
/-- the scripts' names -/
def makeN (scr : List (List Stp)) (nm : ByteArray) : Option (List Stp) :=
  match nm.data.toList with
  | [b] => if b < 48 ∨ 57 < b then none else scr[b.toNat - 48]?
  | _ => none
def newD (nm : ByteArray) (l : List Stp) (pos : Nat) (kid self : Int) : DiaS := ⟨nm, l, ⟨pos, kid, self, false, false, false, 0, 0, ⟨#[]⟩⟩, 0, 0⟩
def spawnN (N : NdS) (nm : ByteArray) : NdS × Int × Int :=
  let ref := N.id * 1000 + N.spawned + 1
  match makeN N.scr nm with
  | none => (N, 0, 4)
  | some l => if N.has ref then (N, 0, 5) else if 60 ≤ N.acts.length ∨ 999 ≤ N.spawned then (N, 0, 6) else
    ({ N with acts := insA ⟨ref, newD nm l 0 0 ref, [], 0, false, 0, fun _ => false⟩ N.acts, rows := addR N.rows ref, spawned := N.spawned + 1 }, ref, 0)
def giveA (a : ActS) (x : Int) : ActS := { a with d := giveD a.d x, knows := fun y => a.knows y || y == x }
def stepN (N : NdS) (ref : Int) : NdS × Bool :=
  match N.find ref with
  | none => (N, false)
  | some a0 =>
    let p := if a0.waits then wakeA a0 else (a0, true)
    let N1 := N.setA p.1
    if !p.2 then (N1, false) else
    let q := runD N.fuel p.1.d
    let a := { p.1 with d := q.1 }
    let N2 := N1.setA a
    let o := q.2
    if o.kind = 2 then ({ N2 with said := N2.said ++ [(ref, o.num)] }, true)
    else if o.kind = 3 then (sendN N2 ⟨1, ref, o.num, 0, ⟨#[]⟩, vLeaf o.vk o.vn⟩, true)
    else if o.kind = 5 then (sendN N2 ⟨3, ref, o.num, 0, ⟨#[]⟩, vLeaf 0 0⟩, true)
    else if o.kind = 6 then (sendN { N2 with rows := linkL N2.rows ref o.num } ⟨4, ref, o.num, 0, ⟨#[]⟩, vLeaf 0 0⟩, true)
    else if o.kind = 4 then
      let s := spawnN N2 o.text
      (match s.1.find ref with
        | none => s.1
        | some b => s.1.setA (giveA b s.2.1), true)
    else if o.kind = 7 then (N2.setA (waitA a o.num), true)
    else if o.kind = 8 then (remN 60 N2 ref false ⟨#[]⟩, true)
    else if o.kind = 9 then (remN 60 N2 ref true o.text, true)
    else (N2, false)
def loopN : Nat → NdS → Int → NdS
  | 0, N, _ => N
  | k + 1, N, ref => if N.has ref then (if (stepN N ref).2 then loopN k (stepN N ref).1 ref else (stepN N ref).1) else N
def readyN (N : NdS) : List Int := (N.acts.filter canA).map (·.ref)
def nextI (l : List Int) (last : Int) : Int := match l.find? (fun n => decide (last < n)) with
  | some n => n
  | none => l.headD 0
def turnN (N : NdS) : NdS × Int × Int :=
  if readyN N = [] then (N, 0, 4) else
  let r := nextI (readyN N) N.last
  (loopN N.fuel { N with last := r } r, r, 0)
def tickN (N : NdS) : NdS := { N with acts := N.acts.map fun a => if a.waits && decide (0 < a.ticks) then { a with ticks := a.ticks - 1 } else a }
def refsN (N : NdS) : List Int := N.acts.map (·.ref)
def outN (N : NdS) : NdS := { N with out := [] }
def homeN (N : NdS) (ref dst : Int) : NdS := { N with homes := fun x => if x = ref then some dst else N.homes x }
def dropN (N : NdS) (ref : Int) : NdS := if N.has ref then { N.delA ref with rows := goneL N.rows ref } else N
def newN (id : Int) (scr : List (List Stp)) (fuel : Nat) : NdS := ⟨id, fuel, scr, [], [], fun _ => none, 0, 0, [], []⟩
end Go.Proofs.YtjjfglbcikaicaaGreat
namespace Go.Proofs.YtjjfglbcikaicaaGreat
open Go.RowKit Go.Maps
set_option linter.unusedVariables false
set_option linter.unusedSimpArgs false
def Wf (x : Int) : Prop := (Lit.int .i64 x).wf = true
theorem lawI : Keyed Tryz.prog 3 := int_keyed Tryz.underlying3
theorem keyI {x : Int} (h : Wf x) : keyOf Tryz.prog 3 (.int .i64 x) = some (.int .i64 x) := keyOf_int_mk Tryz.underlying3 h
theorem Wf.iff {x : Int} : Wf x ↔ -9223372036854775808 ≤ x ∧ x ≤ 9223372036854775807 := by
  have e1 : IntKind.i64.min = -9223372036854775808 := by decide
  have e2 : IntKind.i64.max = 9223372036854775807 := by decide
  show (decide (IntKind.i64.min ≤ x) && decide (x ≤ IntKind.i64.max)) = true ↔ _
  rw [e1, e2, Bool.and_eq_true, decide_eq_true_eq, decide_eq_true_eq]
theorem Wf.of {x : Int} (h1 : -9223372036854775808 ≤ x) (h2 : x ≤ 9223372036854775807) : Wf x := Wf.iff.2 ⟨h1, h2⟩
theorem Wf.low {x : Int} (h : Wf x) : -9223372036854775808 ≤ x ∧ x ≤ 9223372036854775807 := Wf.iff.1 h
/-- an element stands for itself -/
def anyElem (v : Value) : Option (DataW Value × List MemPlace) := some (.held v, [])
theorem anyElem_inv {v : Value} {d : DataW Value} {ps : List MemPlace} (h : anyElem v = some (d, ps)) : d = .held v := by
  unfold anyElem at h
  injection h with h
  injection h with h1 h2
  exact h1.symm
/-- block b holds the map g, of n entries -/
def OwnM (w : World) (b n : Nat) (g : Int → Option Value) : Prop :=
  ∃ D : DataW Value, w.ownsMap Tryz.prog 3 anyElem b n D ∧ Maps.size D = n ∧ ∀ x, Wf x → has D (.int .i64 x) = (g x).isSome ∧ ∀ z, D.atKey (.int .i64 x) (.held z) = .held ((g x).getD z)
theorem OwnM.made (w : World) : OwnM (w.alloc (.map #[] 0)) w.heap.size 0 (fun _ => none) := ⟨.map [], World.ownsMap_made w _ _ _, rfl, fun x _ => ⟨rfl, fun _ => rfl⟩⟩
theorem OwnM.lt {w : World} {b n : Nat} {g : Int → Option Value} (h : OwnM w b n g) : b < w.heap.size := by obtain ⟨D, h1, _⟩ := h; exact h1.lt
theorem OwnM.kept {w w' : World} {b n : Nat} {g : Int → Option Value} {row : Option Nat} (h : OwnM w b n g) (hg : w.grownBy w' row) (hne : some b ≠ row) : OwnM w' b n g := by
  obtain ⟨D, h1, h2⟩ := h
  exact ⟨D, h1.kept hg hne, h2⟩
theorem OwnM.fr {S : Nat → Prop} {w w' : World} {b n : Nat} {g : Int → Option Value} (h : OwnM w b n g) (hf : Fr S w w') (hn : ¬ S b) : OwnM w' b n g := by
  obtain ⟨D, h1, h2⟩ := h
  exact ⟨D, hf.map h1 hn, h2⟩
theorem OwnM.congr {w : World} {b n : Nat} {g g' : Int → Option Value} (h : OwnM w b n g) (e : ∀ x, Wf x → g' x = g x) : OwnM w b n g' := by
  obtain ⟨D, h1, h2, h3⟩ := h
  exact ⟨D, h1, h2, fun x hx => by rw [e x hx]; exact h3 x hx⟩
section
variable {t e : TypeId} {z : Value}
set_option maxRecDepth 100000
theorem OwnM.look (ht : Tryz.prog.underlying t = some (.map 3 e)) (hz : ∀ w, (zeroValue e).run Tryz.prog w = .ok z w) {w : World} {b n : Nat} {g : Int → Option Value} (h : OwnM w b n g) {x : Int} (hx : Wf x) : (Instr.lookup t (.map (some b)) (.int .i64 x) false).run Tryz.prog w = .ok ((g x).getD z) w := by
  obtain ⟨D, h1, _, h2⟩ := h
  obtain ⟨v, ps, hrun, hv⟩ := h1.lookup lawI ht (hz w) (show anyElem z = some (.held z, []) from rfl) (keyI hx)
  rw [(h2 x hx).2] at hv
  have := anyElem_inv hv
  injection this with this
  rw [hrun, this]
theorem OwnM.look_ok (ht : Tryz.prog.underlying t = some (.map 3 e)) (hz : ∀ w, (zeroValue e).run Tryz.prog w = .ok z w) {w : World} {b n : Nat} {g : Int → Option Value} (h : OwnM w b n g) {x : Int} (hx : Wf x) : (Instr.lookup t (.map (some b)) (.int .i64 x) true).run Tryz.prog w = .ok (.tuple #[(g x).getD z, .bool (g x).isSome]) w := by
  obtain ⟨D, h1, _, h2⟩ := h
  obtain ⟨v, ps, hrun, hv⟩ := h1.look_ok lawI ht (hz w) (show anyElem z = some (.held z, []) from rfl) (keyI hx)
  rw [(h2 x hx).2] at hv
  have := anyElem_inv hv
  injection this with this
  rw [hrun, (h2 x hx).1, this]
theorem OwnM.len (ht : Tryz.prog.underlying t = some (.map 3 e)) {w : World} {b n : Nat} {g : Int → Option Value} (h : OwnM w b n g) (ty : TypeId) : (Builtin.len_ #[t] ty #[.map (some b)]).run Tryz.prog w = .ok (.int .i64 (n : Int)) w := by
  obtain ⟨D, h1, hs, _⟩ := h
  rw [h1.len ht ty, hs]
theorem OwnM.store (ht : Tryz.prog.underlying t = some (.map 3 e)) {w : World} {b n : Nat} {g : Int → Option Value} (hown : OwnM w b n g) (hn : n < maxLen) (key : Int) (val : Value) (hkey : Wf key) :
    ∃ w', (Instr.mapUpdate t (.map (some b)) (.int .i64 key) val).run Tryz.prog w = .ok () w' ∧ OwnM w' b (if (g key).isSome then n else n + 1) (fun y => if y = key then some val else g y) ∧ w.grownBy w' (some b) := by
  obtain ⟨D, h1, hs, h2⟩ := hown
  obtain ⟨w', hrun, r1, r2⟩ := h1.update lawI ht hn (keyI hkey) (show anyElem val = some (.held val, []) from rfl)
  have h3 := (h2 key hkey).1
  have hsz : Maps.size (D.put (.int .i64 key) (.held val)) = if (g key).isSome then n else n + 1 := by
    rw [size_put (h1.tidy lawI), h3, hs]
  obtain ⟨es, clock, q1, q2, q3⟩ := r1
  refine ⟨w', hrun, ⟨D.put (.int .i64 key) (.held val), ⟨es, clock, q1, q2, ?_⟩, hsz, fun y hy => ?_⟩, r2⟩
  · refine ⟨?_, q3.2⟩
    have : Maps.size (D.put (.int .i64 key) (.held val)) = es.size := by
      rw [q3.2]; simp [Maps.size, length_sorted]
    omega
  · have hKL : WideAt.IsKeyLit (Lit.int .i64 key) := lawI.key (keyI hkey)
    dsimp only
    by_cases e : y = key
    · subst e
      rw [if_pos rfl, has_put_same h1.isMap hKL]
      exact ⟨rfl, fun z => by rw [atKey_put_same h1.isMap hKL]; rfl⟩
    · have hne : (Lit.int .i64 y) ≠ (Lit.int .i64 key) := fun h => e (by injection h)
      rw [if_neg e, has_put_other hne]
      exact ⟨(h2 y hy).1, fun z => by rw [atKey_put_other hne]; exact (h2 y hy).2 z⟩
theorem OwnM.drop (ht : Tryz.prog.underlying t = some (.map 3 e)) {w : World} {b n : Nat} {g : Int → Option Value} (hown : OwnM w b n g) (key : Int) (hkey : Wf key) (ty : TypeId) :
    ∃ w', (Builtin.delete_ #[t, 3] ty #[.map (some b), .int .i64 key]).run Tryz.prog w = .ok (.tuple #[]) w' ∧ OwnM w' b (if (g key).isSome then n - 1 else n) (fun y => if y = key then none else g y) ∧ w.grownBy w' (some b) := by
  obtain ⟨D, h1, hs, h2⟩ := hown
  obtain ⟨w', hrun, r1, r2⟩ := h1.drop lawI ht (keyI hkey) ty
  have h3 := (h2 key hkey).1
  have hsz : Maps.size (D.del (.int .i64 key)) = if (g key).isSome then n - 1 else n := by
    have := size_del (h1.tidy lawI) (k := .int .i64 key)
    rw [h3, hs] at this
    split <;> simp_all <;> omega
  obtain ⟨es, clock, q1, q2, q3⟩ := r1
  refine ⟨w', hrun, ⟨D.del (.int .i64 key), ⟨es, clock, q1, q2, ?_⟩, hsz, fun y hy => ?_⟩, r2.grown⟩
  · refine ⟨?_, q3.2⟩
    have : Maps.size (D.del (.int .i64 key)) = es.size := by
      rw [q3.2]; simp [Maps.size, length_sorted]
    omega
  · dsimp only
    by_cases e : y = key
    · subst e
      rw [if_pos rfl, has_del_same]
      exact ⟨rfl, fun z => by rw [atKey_del_same]; rfl⟩
    · have hne : (Lit.int .i64 y) ≠ (Lit.int .i64 key) := fun h => e (by injection h)
      rw [if_neg e, has_del_other hne]
      exact ⟨(h2 y hy).1, fun z => by rw [atKey_del_other hne]; exact (h2 y hy).2 z⟩
end
end Go.Proofs.YtjjfglbcikaicaaGreat
namespace Go.Proofs.YtjjfglbcikaicaaGreat
open Go.RowKit
set_option linter.unusedVariables false
set_option linter.unusedSimpArgs false
def nthL (l : List LT) (i : Nat) : LT := l.getD i zLT
def topV (r : RunS) (i : Nat) : VT := if i = 0 then vLeaf 2 r.pos else vLeaf 6 r.kid
/-- what a runner keeps -/
def RunOk (l : List Stp) (r : RunS) : Prop := (r.waiting = true → r.pos < l.length ∧ r.lk = 7) ∧ (r.over = true → r.lk ≠ 7)
theorem RunOk.give {l : List Stp} {r : RunS} (h : RunOk l r) (x : Int) : RunOk l (giveR r x) := by
  unfold giveR; split <;> exact h
theorem RunOk.late {l : List Stp} {r : RunS} (h : RunOk l r) : RunOk l (lateR r) := by
  unfold lateR; split
  · exact ⟨(fun e => by cases e), h.2⟩
  · exact h
theorem RunOk.offer {l : List Stp} {r : RunS} (h : RunOk l r) (k x : Int) : RunOk l (offerR l r k x).1 := by
  unfold offerR; split
  · split
    · exact ⟨(fun e => by cases e), h.2⟩
    · exact h
  · exact h
theorem RunOk.step {l : List Stp} {r : RunS} (h : RunOk l r) (hw : r.waiting = false) (ho : r.over = false) : RunOk l (stepR l r).1 ∧ ((stepR l r).2.kind = 7 → (stepR l r).1.waiting = true) := by
  unfold stepR
  have hf : ∀ {p : Prop}, r.waiting = true → p := fun e => by rw [hw] at e; cases e
  split
  · exact ⟨⟨fun e => hf e, fun _ => show (8 : Int) ≠ 7 by decide⟩, fun e => by cases e⟩
  · rename_i hp
    dsimp only
    have hg : ∀ {p : Prop}, r.over = true → p := fun e => by rw [ho] at e; cases e
    split
    · exact ⟨⟨fun e => hf e, fun e => hg e⟩, fun e => by cases e⟩
    split
    · exact ⟨⟨fun e => hf e, fun e => hg e⟩, fun e => by cases e⟩
    split
    · exact ⟨⟨fun e => hf e, fun e => hg e⟩, fun e => by cases e⟩
    split
    · exact ⟨⟨fun e => hf e, fun e => hg e⟩, fun e => by cases e⟩
    split
    · exact ⟨⟨fun e => hf e, fun e => hg e⟩, fun e => by cases e⟩
    split
    · exact ⟨⟨fun e => ⟨by show r.pos < l.length; omega, rfl⟩, fun e => hg e⟩, fun e => rfl⟩
    split
    · exact ⟨⟨fun e => hf e, fun _ => show (8 : Int) ≠ 7 by decide⟩, fun e => by cases e⟩
    split
    · exact ⟨⟨fun e => hf e, fun _ => show (9 : Int) ≠ 7 by decide⟩, fun e => by cases e⟩
    split
    · exact ⟨⟨fun e => hf e, fun e => hg e⟩, fun e => by cases e⟩
    · exact ⟨⟨fun e => hf e, fun e => hg e⟩, fun e => by cases e⟩
theorem RunOk.run {l : List Stp} : ∀ (f : Nat) {r : RunS}, RunOk l r → RunOk l (runR l f r).1 ∧ ((runR l f r).2.kind = 7 → (runR l f r).1.waiting = true)
  | 0, r, h => ⟨h, fun e => by cases e⟩
  | f + 1, r, h => by
    unfold runR
    split
    · rename_i h1
      refine ⟨h, fun e => ?_⟩
      rcases ho : r.over with _ | _
      · rw [ho] at h1; simpa using h1
      · exact absurd e (h.2 ho)
    · rename_i h1
      split
      · exact ⟨h, fun e => by cases e⟩
      · have hs := h.step (by rcases hw : r.waiting with _ | _; rfl; rw [hw] at h1; simp at h1) (by rcases ho : r.over with _ | _; rfl; rw [ho] at h1; simp at h1)
        split
        · exact RunOk.run f hs.1
        · exact hs
theorem runR_wait {l : List Stp} {f : Nat} {r : RunS} (h : r.waiting = true) : (runR l f r).1 = r := by
  cases f with
  | zero => rfl
  | succ f => unfold runR; rw [if_pos (by rw [h]; simp)]
/-- values that lie in a slice -/
def RdV (w : World) (S : Nat → Prop) (A : Option Addr) (n : Nat) (arg : Nat → VT) : Prop :=
  0 < n → ∃ b off, A = some ⟨b, off, none⟩ ∧ b < w.heap.size ∧ S b ∧ ∃ C : Nat → List Value, ∀ i, i < n → (arg i).isV w S (C i) ∧ ∀ j u, (C i)[j]? = some u → w.cell? ⟨b, off + i * 4 + j, none⟩ = some u
theorem RdV.frame {w w' : World} {S S' : Nat → Prop} {A : Option Addr} {n : Nat} {arg : Nat → VT} (h : RdV w S A n arg) (hsz : w.heap.size ≤ w'.heap.size) (hS : ∀ b, S b → b < w.heap.size → S' b ∧ w'.heap[b]? = w.heap[b]?) : RdV w' S' A n arg := fun h0 => by
  obtain ⟨b, off, hA, hb, hSb, C, hC⟩ := h h0
  obtain ⟨s1, s2⟩ := hS b hSb hb
  exact ⟨b, off, hA, by omega, s1, C, fun i hi => ⟨isV_frame hsz hS (hC i hi).1, fun j u hu => (World.cell?_of_block (a := ⟨b, _, none⟩) s2).trans ((hC i hi).2 j u hu)⟩⟩
section
variable {w w' : World} {S X X' : Nat → Prop}
/-- the frame for what avoids X -/
theorem isL_fr {l : LT} {cs : List Value} (h : l.isL w (fun k => ¬ X k) cs) (hf : Fr S w w') (hS : ∀ k, S k → X k) (hX : ∀ k, X' k → X k ∨ w.heap.size ≤ k) : l.isL w' (fun k => ¬ X' k) cs :=
  isL_frame hf.size (fun b hb hlt => ⟨fun h => by rcases hX b h with h | h; exact hb h; omega, hf.block b hlt fun hs => hb (hS b hs)⟩) h
theorem RdL.fr {A : Option Addr} {n : Nat} {arg : Nat → LT} (h : RdL w (fun k => ¬ X k) A n arg) (hf : Fr S w w') (hS : ∀ k, S k → X k) (hX : ∀ k, X' k → X k ∨ w.heap.size ≤ k) : RdL w' (fun k => ¬ X' k) A n arg :=
  h.frame hf.size (fun b hb hlt => ⟨fun h => by rcases hX b h with h | h; exact hb h; omega, hf.block b hlt fun hs => hb (hS b hs)⟩)
theorem RdV.fr {A : Option Addr} {n : Nat} {arg : Nat → VT} (h : RdV w (fun k => ¬ X k) A n arg) (hf : Fr S w w') (hS : ∀ k, S k → X k) (hX : ∀ k, X' k → X k ∨ w.heap.size ≤ k) : RdV w' (fun k => ¬ X' k) A n arg :=
  h.frame hf.size (fun b hb hlt => ⟨fun h => by rcases hX b h with h | h; exact hb h; omega, hf.block b hlt fun hs => hb (hS b hs)⟩)
theorem ScrAt.fr {base c : Nat} {A : Option Addr} {l : List Stp} {vo : Nat → Value} (h : ScrAt w base A c l vo) (hf : Fr S w w') (hb : ∀ k, S k → base ≤ k) : ScrAt w' base A c l vo := by
  obtain ⟨h1, h2, h3, h4, h5⟩ := h
  refine ⟨h1, h2, h3, fun h0 => ?_, fun k hk => ?_⟩
  · obtain ⟨b, off, e, hlt, hc⟩ := h4 h0
    exact ⟨b, off, e, hlt, fun k hk j u hu => hf.cell (hc k hk j u hu) (fun hs => by have := hb b hs; omega)⟩
  · obtain ⟨A, c, e, g1, g2, g3⟩ := h5 k hk
    refine ⟨A, c, e, g1, g2, fun h0 => ?_⟩
    obtain ⟨b, off, e2, hlt, hc⟩ := g3 h0
    exact ⟨b, off, e2, hlt, fun j hj => hf.cell (hc j hj) (fun hs => by have := hb b hs; omega)⟩
end
/-- a diary at block b, of a runner at block rb; ib: the block of its inputs -/
structure DiaAt (w : World) (X : Nat → Prop) (base T b rb : Nat) (ib : Option Nat) (d : DiaS) : Prop where
  run : ∃ A c vo, ScrAt w base A c d.l vo ∧ RunAt w rb A d.l.length c d.r
  c0 : w.cell? ⟨b, 0, none⟩ = some (.iface 236 (.pointer (some ⟨rb, 0, none⟩)))
  c1 : w.cell? ⟨b, 1, none⟩ = some (.string d.nm)
  c2 : ∃ A n c, w.cell? ⟨b, 2, none⟩ = some (.slice A n c) ∧ (d.dk = 7 → n = 2 ∧ 2 ≤ c ∧ c ≤ 9223372036854775807 ∧ RdV w (fun k => ¬ X k) A 2 (topV d.r))
  c3 : ∃ A n c xs, w.cell? ⟨b, 3, none⟩ = some (.slice A n c) ∧ w.ownsRow base 184 5 (.slice A n c) n xs ∧ n ≤ T ∧ (Value.slice A n c).ownBlock = ib ∧ (d.dk = 7 → n = 0 ∧ A = none ∧ c = 0)
  c4 : w.cell? ⟨b, 4, none⟩ = some (.int .i64 d.dk)
  c5 : w.cell? ⟨b, 5, none⟩ = some (.int .i64 d.dn)
  c6 : w.cell? ⟨b, 6, none⟩ = some (.string ⟨#[]⟩)
  c7 : w.cell? ⟨b, 7, none⟩ = some (.int .i64 0)
  c8 : w.cell? ⟨b, 8, none⟩ = some (.int .i64 0)
  c9 : w.cell? ⟨b, 9, none⟩ = some (.string ⟨#[]⟩)
  c10 : w.cell? ⟨b, 10, none⟩ = some (.slice none 0 0)
  c11 : w.cell? ⟨b, 11, none⟩ = some (.slice none 0 0)
  fz : ∀ o, w.frozen? ⟨b, o, none⟩ = false
  nr : b ≠ rb
  ni : ∀ k, ib = some k → k ≠ b ∧ k ≠ rb
  lb : base ≤ b ∧ base ≤ rb
  wt : d.dk = 7 → d.r.waiting = true
  pl : RunOk d.l d.r
theorem DiaAt.lt {w : World} {X : Nat → Prop} {base T b rb : Nat} {ib : Option Nat} {d : DiaS} (h : DiaAt w X base T b rb ib d) : b < w.heap.size ∧ rb < w.heap.size ∧ ∀ k, ib = some k → base ≤ k ∧ k < w.heap.size := by
  obtain ⟨A, c, vo, _, h2⟩ := h.run
  obtain ⟨A', n, c', xs, _, h3, _, h4, _⟩ := h.c3
  exact ⟨World.block_lt_of_cell? w _ h.c0, h2.lt, fun k hk => h3.lt k (h4.trans hk)⟩
theorem DiaAt.fr {w w' : World} {S X X' : Nat → Prop} {base T T' b rb : Nat} {ib : Option Nat} {d : DiaS} (h : DiaAt w X base T b rb ib d) (hf : Fr S w w') (hS : ∀ k, S k → X k) (hX : ∀ k, X' k → X k ∨ w.heap.size ≤ k) (hb : ∀ k, S k → base ≤ k) (hT : T ≤ T')
    (h1 : ¬ S b) (h2 : ¬ S rb) (h3 : ∀ k, ib = some k → ¬ S k) : DiaAt w' X' base T' b rb ib d := by
  obtain ⟨A, c, vo, r1, r2⟩ := h.run
  obtain ⟨A2, n2, c2, s1, s2⟩ := h.c2
  obtain ⟨A3, n3, c3, xs, t1, t2, t3, t4, t5⟩ := h.c3
  exact ⟨⟨A, c, vo, r1.fr hf hb, r2.fr hf h2⟩, hf.cell h.c0 h1, hf.cell h.c1 h1, ⟨A2, n2, c2, hf.cell s1 h1, fun e => by obtain ⟨u1, u2, u3, u4⟩ := s2 e; exact ⟨u1, u2, u3, u4.fr hf hS hX⟩⟩,
    ⟨A3, n3, c3, xs, hf.cell t1 h1, hf.row t2 (fun k hk => h3 k (t4.symm.trans hk)), by omega, t4, t5⟩, hf.cell h.c4 h1, hf.cell h.c5 h1, hf.cell h.c6 h1, hf.cell h.c7 h1, hf.cell h.c8 h1, hf.cell h.c9 h1, hf.cell h.c10 h1, hf.cell h.c11 h1,
    fun o => (hf.frozen (World.block_lt_of_cell? w _ h.c0) h1).trans (h.fz o), h.nr, h.ni, h.lb, h.wt, h.pl⟩
/-- a set of references in a map -/
def knG (p : Int → Bool) : Int → Option Value := fun x => if p x then some (.bool true) else none
/-- an actor at block p, its diary at b, its runner at rb, its set at kb -/
structure ActG (w : World) (X : Nat → Prop) (base T : Nat) (MA : Nat → Prop) (p b rb kb : Nat) (ib : Option Nat) (a : ActS) : Prop where
  dia : DiaAt w X base T b rb ib a.d
  a0 : w.cell? ⟨p, 0, none⟩ = some (.pointer (some ⟨b, 0, none⟩))
  a1 : w.cell? ⟨p, 1, none⟩ = some (.int .i64 a.ref)
  a2 : ∃ A c, w.cell? ⟨p, 2, none⟩ = some (.slice A a.box.length c) ∧ a.box.length ≤ c ∧ c ≤ 9223372036854775807 ∧ RdL w (fun k => ¬ X k) A a.box.length (nthL a.box)
  a3 : w.cell? ⟨p, 3, none⟩ = some (.int .i64 (a.pos : Int))
  a4 : w.cell? ⟨p, 4, none⟩ = some (.bool a.waits)
  a5 : w.cell? ⟨p, 5, none⟩ = some (.int .i64 a.ticks)
  a6 : w.cell? ⟨p, 6, none⟩ = some (.map (some kb))
  kn : ∃ n, OwnM w kb n (knG a.knows) ∧ n ≤ T
  fz : ∀ o, w.frozen? ⟨p, o, none⟩ = false
  mine : MA p ∧ MA b ∧ MA rb ∧ MA kb ∧ ∀ k, ib = some k → MA k
  ap : p ≠ b ∧ p ≠ rb ∧ p ≠ kb ∧ b ≠ kb ∧ rb ≠ kb ∧ ∀ k, ib = some k → k ≠ p ∧ k ≠ kb
  lbp : base ≤ p ∧ base ≤ kb
theorem ActG.fr {w w' : World} {S X X' MA : Nat → Prop} {base T T' p b rb kb : Nat} {ib : Option Nat} {a : ActS} (h : ActG w X base T MA p b rb kb ib a) (hf : Fr S w w') (hS : ∀ k, S k → X k) (hX : ∀ k, X' k → X k ∨ w.heap.size ≤ k) (hb : ∀ k, S k → base ≤ k) (hT : T ≤ T')
    (hM : ∀ k, MA k → ¬ S k) : ActG w' X' base T' MA p b rb kb ib a := by
  obtain ⟨m1, m2, m3, m4, m5⟩ := h.mine
  obtain ⟨A2, c2, s1, s2, s3, s4⟩ := h.a2
  obtain ⟨n, k1, k2⟩ := h.kn
  have h1 := hM p m1
  exact ⟨h.dia.fr hf hS hX hb hT (hM b m2) (hM rb m3) (fun k hk => hM k (m5 k hk)), hf.cell h.a0 h1, hf.cell h.a1 h1, ⟨A2, c2, hf.cell s1 h1, s2, s3, s4.fr hf hS hX⟩, hf.cell h.a3 h1, hf.cell h.a4 h1, hf.cell h.a5 h1, hf.cell h.a6 h1,
    ⟨n, k1.fr hf (hM kb m4), by omega⟩, fun o => (hf.frozen (World.block_lt_of_cell? w _ h.a0) h1).trans (h.fz o), h.mine, h.ap, h.lbp⟩
theorem ActG.lt {w : World} {X MA : Nat → Prop} {base T p b rb kb : Nat} {ib : Option Nat} {a : ActS} (h : ActG w X base T MA p b rb kb ib a) : p < w.heap.size ∧ kb < w.heap.size := by
  obtain ⟨n, h1, _⟩ := h.kn
  exact ⟨World.block_lt_of_cell? w _ h.a0, h1.lt⟩
theorem ActG.mono {w : World} {X MA MA' : Nat → Prop} {base T p b rb kb : Nat} {ib : Option Nat} {a : ActS} (h : ActG w X base T MA p b rb kb ib a) (hM : ∀ k, MA k → MA' k) : ActG w X base T MA' p b rb kb ib a := by
  obtain ⟨m1, m2, m3, m4, m5⟩ := h.mine
  exact { h with mine := ⟨hM _ m1, hM _ m2, hM _ m3, hM _ m4, fun k hk => hM _ (m5 k hk)⟩ }
def dRow : Li.LR := ⟨0, [], []⟩
def rowF (rows : List Li.LR) (i : Nat) : Li.LR := rows.getD i dRow
/-- rows that avoid X -/
def RowsAt (w : World) (X : Nat → Prop) (v : Value) (rows : List Li.LR) : Prop :=
  ∃ A c vw vl, v = .slice A rows.length c ∧ Li.OwnL w 0 v rows.length (rowF rows) vw vl ∧ (∀ k, v.ownBlock = some k → ¬ X k) ∧ ∀ i, i < rows.length → ∀ s k, (Li.iv vw vl i s).ownBlock = some k → ¬ X k
theorem OwnI.fr {w w' : World} {S : Nat → Prop} {base : Nat} {v : Value} {l : List Int} (h : OwnI w base v l) (hf : Fr S w w') (hn : ∀ k, v.ownBlock = some k → ¬ S k) : OwnI w' base v l := hf.row h hn
theorem RowsAt.fr {w w' : World} {S X X' : Nat → Prop} {v : Value} {rows : List Li.LR} (h : RowsAt w X v rows) (hf : Fr S w w') (hS : ∀ k, S k → X k) (hX : ∀ k, X' k → X k ∨ w.heap.size ≤ k) : RowsAt w' X' v rows := by
  obtain ⟨A, c, vw, vl, e, h1, h2, h3⟩ := h
  refine ⟨A, c, vw, vl, e, ⟨hf.row h1.row (fun k hk hs => h2 k hk (hS k hs)), fun i hi s => (h1.each i hi s).fr hf (fun k hk hs => h3 i hi s k hk (hS k hs)), h1.apart, h1.outer⟩, fun k hk hx => ?_, fun i hi s k hk hx => ?_⟩
  · rcases hX k hx with h | h
    · exact h2 k hk h
    · have := (h1.row.lt k hk).2; omega
  · rcases hX k hx with h | h
    · exact h3 i hi s k hk h
    · have := ((h1.each i hi s).lt k hk).2; omega
/-- letters that go out -/
structure OutAt (w : World) (X : Nat → Prop) (base : Nat) (v : Value) (ob : Option Nat) (C : Nat → List Value) (l : List LT) : Prop where
  row : w.ownsRow base 43 9 v l.length (flatC C l.length)
  len : ∀ i, (C i).length = 9
  each : ∀ i, i < l.length → (nthL l i).isL w (fun k => ¬ X k) (C i)
  blk : v.ownBlock = ob
theorem OutAt.fr {w w' : World} {S X X' : Nat → Prop} {base : Nat} {v : Value} {ob : Option Nat} {C : Nat → List Value} {l : List LT} (h : OutAt w X base v ob C l) (hf : Fr S w w') (hS : ∀ k, S k → X k) (hX : ∀ k, X' k → X k ∨ w.heap.size ≤ k) (hn : ∀ k, ob = some k → ¬ S k) : OutAt w' X' base v ob C l :=
  ⟨hf.row h.row (fun k hk => hn k (h.blk.symm.trans hk)), h.len, fun i hi => isL_fr (h.each i hi) hf hS hX, h.blk⟩
def saidC (l : List (Int × Int)) (i : Nat) : List Value := [.int .i64 (l.getD i (0, 0)).1, .int .i64 (l.getD i (0, 0)).2]
/-- scripts that lie below base -/
def ScrsAt (w : World) (base : Nat) (A : Option Addr) (c : Nat) (L : List (List Stp)) : Prop :=
  L.length ≤ c ∧ c ≤ 9223372036854775807 ∧ L.length ≤ 1000000 ∧ (0 < L.length → ∃ b off, A = some ⟨b, off, none⟩ ∧ b < base) ∧
  ∀ i, i < L.length → ∃ b off A' c' vo, A = some ⟨b, off, none⟩ ∧ b < base ∧ w.cell? ⟨b, off + i, none⟩ = some (.slice A' (L.getD i []).length c') ∧ ScrAt w base A' c' (L.getD i []) vo
theorem ScrsAt.fr {w w' : World} {S : Nat → Prop} {base c : Nat} {A : Option Addr} {L : List (List Stp)} (h : ScrsAt w base A c L) (hf : Fr S w w') (hb : ∀ k, S k → base ≤ k) : ScrsAt w' base A c L := by
  obtain ⟨h1, h2, h3, h4, h5⟩ := h
  refine ⟨h1, h2, h3, h4, fun i hi => ?_⟩
  obtain ⟨b, off, A', c', vo, g1, g2, g3, g4⟩ := h5 i hi
  exact ⟨b, off, A', c', vo, g1, g2, hf.cell g3 (fun hs => by have := hb b hs; omega), g4.fr hf hb⟩
end Go.Proofs.YtjjfglbcikaicaaGreat
namespace Go.Proofs.YtjjfglbcikaicaaGreat
open Go.RowKit
set_option linter.unusedVariables false
theorem step_call1 {ops : Array Oper} {o : Oper} {a : Act} {w : World} {K : Act → World → Prop} {Q : Exit → Act → World → Prop} {E : Prop} (hgd : o.guard = none) (f : FuncId) (hen : ∀ args w, (callFunc f args).run Tryz.prog w = .ok (.enter f args) w) (s : Operand) (t : TypeId)
    (ho : o.op = .call { callee := .value (.func f), args := #[s], argTypes := #[t] }) (x : Value) (hs : a.eval s = x) {R : Ending → World → Prop} (hc : Calls Tryz.prog f #[x] w R)
    (h : ∀ e w', R e w' → ∃ v, e = .returned v ∧ K (a.put o.dst v) w') :
    if Region.wanted o (yielded ops a.tmps) = true then Oper.wp Tryz.prog o a w K Q else E := by
  have hw : Region.wanted o (yielded ops a.tmps) = true := by simp [Region.wanted, hgd]
  rw [if_pos hw]
  have key : (execOp a.eval o).run Tryz.prog w = .ok (.enter f #[x]) w := by
    unfold execOp
    have hf : a.eval (.func f) = .func (.func f) #[] #[] := by simp [Act.eval]
    simp only [ho, resolve, invoke, Sem.run_bind, List.map_toArray, List.map_cons, List.map_nil, hs, hf]
    simp [Deferred.ofValue, go_sem, hen]
  unfold Oper.wp
  rw [key, Oper.upon_enter]
  refine hc.mono ?_
  intro e w' hR
  obtain ⟨v, rfl, hK⟩ := h e w' hR
  exact hK
end Go.Proofs.YtjjfglbcikaicaaGreat
namespace Go.Proofs.YtjjfglbcikaicaaGreat
open Go.RowKit Go.Maps
set_option linter.unusedVariables false
set_option linter.unusedSimpArgs false
theorem infoIn : (Tryz.prog.info? 184).map (fun i => (i.zero, i.size, i.bytes)) = some (some (.agg #[.int .i64 0, .int .i64 0, .int .i64 0, .string ⟨#[]⟩, .slice none 0 0]), 5, 64) := by kernel_rfl
def RecPost (X : Nat → Prop) (base T b rb : Nat) (ib : Option Nat) (d : DiaS) (w0 : World) (v : Value) (e : Ending) (w' : World) : Prop :=
  e = .returned v ∧ ∃ ib', (∀ k, ib' = some k → ib = some k ∨ w0.heap.size ≤ k) ∧ DiaAt w' (fun k => X k ∨ ib' = some k) base (T + 1) b rb ib' d ∧ Fr (fun k => k = b ∨ k = rb ∨ ib = some k) w0 w'
theorem cells5_one (a : Int) (k m : Int) (s : ByteArray) (A : Option Addr) (n c : Nat) : ∀ u ∈ ([.int .i64 a, .int .i64 k, .int .i64 m, .string s, .slice A n c] : List Value), u.oneCell' = true := by
  intro u hu
  simp at hu
  rcases hu with rfl | rfl | rfl | rfl | rfl <;> rfl
set_option maxRecDepth 100000 in
set_option maxHeartbeats 4000000 in
theorem record_any (X : Nat → Prop) (base T b rb : Nat) (ib : Option Nat) (d : DiaS) (r' : RunS) (w0 w : World) (kd : Int) (t : VT) (cs : List Value) (S : Nat → Prop) (H : DiaAt w0 X base T b rb ib d) (hT : T < 1000000000000) (hf : Fr (fun k => k = rb) w0 w)
    (hr : ∃ A c vo, ScrAt w base A c d.l vo ∧ RunAt w rb A d.l.length c r') (hp : RunOk d.l r') (hv : t.isV w S cs) (hm : t.many ≤ 4194304) : Calls Tryz.prog 112 #[.pointer (some ⟨b, 0, none⟩), .int .i64 kd, .agg cs.toArray] w (RecPost X base T b rb ib { d with r := r', dk := 0, dn := 0 } w0 (.tuple #[])) := by
  obtain ⟨i0, hi, jz0, jz1, jz2⟩ := info_parts infoIn
  obtain ⟨hb0, hrb0, hib0⟩ := H.lt
  have hnr := H.nr
  have hni := H.ni
  obtain ⟨lb1, lb2⟩ := H.lb
  obtain ⟨A3, n3, c3, xs, e3, hrow, hn3, hib, _⟩ := H.c3
  have k3 := hf.cell e3 hnr
  have k1 := hf.cell H.c1 hnr
  have k0 := hf.cell H.c0 hnr
  obtain ⟨A2, n2, c2, e2, _⟩ := H.c2
  have k2 := hf.cell e2 hnr
  have k4 := hf.cell H.c4 hnr
  have k5 := hf.cell H.c5 hnr
  have k6 := hf.cell H.c6 hnr
  have k7 := hf.cell H.c7 hnr
  have k8 := hf.cell H.c8 hnr
  have k9 := hf.cell H.c9 hnr
  have k10 := hf.cell H.c10 hnr
  have k11 := hf.cell H.c11 hnr
  have fz : ∀ o, w.frozen? ⟨b, o, none⟩ = false := fun o => (hf.frozen hb0 hnr).trans (H.fz o)
  have hrow' := hf.row hrow (fun k hk => (hni k (hib.symm.trans hk)).2)
  have HRow := Lib.hid hrow'
  have HF := Lib.hid hf
  have HR := Lib.hid hr
  have HV := Lib.hid hv
  have hbw : b < w.heap.size := Nat.lt_of_lt_of_le hb0 hf.size
  have hib1 : ∀ k, ib = some k → base ≤ k ∧ k < w.heap.size := fun k hk => ⟨(hib0 k hk).1, Nat.lt_of_lt_of_le (hib0 k hk).2 hf.size⟩
  have HI := Lib.hid hib1
  have HE := Lib.hid hib
  have HN := Lib.hid hni
  obtain ⟨k, m, s, A', n', c', rfl⟩ := isV_cells hv
  clear H e3 hrow e2 hrow' hr hv hib1 hib hni
  go_enter Tryz.func112, Tryz.ntmps112
  go_wp2_with fail
  generalize hW : w.alloc (.cells #[.int .i64 k, .int .i64 m, .string s, .slice A' n' c'] 41) = W at *
  have HW := Lib.hid hW
  have HFW := Lib.hid (show Fr (fun _ => False) w W by rw [← hW]; exact (Fr.refl _ _).alloc _)
  have hzW : w.heap.size < W.heap.size := by rw [← hW]; simp
  have z0 : W.cell? ⟨w.heap.size, 0, none⟩ = some (.int .i64 k) := by rw [← hW]; simp [go_sem]
  have z1 : W.cell? ⟨w.heap.size, 1, none⟩ = some (.int .i64 m) := by rw [← hW]; simp [go_sem]
  have z2 : W.cell? ⟨w.heap.size, 2, none⟩ = some (.string s) := by rw [← hW]; simp [go_sem]
  have z3 : W.cell? ⟨w.heap.size, 3, none⟩ = some (.slice A' n' c') := by rw [← hW]; simp [go_sem]
  clear hW
  have HVW := Lib.hid (isV_below HV.out (show Below w.heap.size w W.drew from ⟨HFW.out.os, HFW.out.tape, HFW.out.output, HFW.out.size, fun i hi => HFW.out.block i hi (fun h => h)⟩))
  have HRW := Lib.hid (HFW.out.row HRow.out (fun _ _ h => h))
  have q3 : W.cell? ⟨b, 3, none⟩ = some (.slice A3 n3 c3) := HFW.out.cell k3 (fun h => h)
  have hbW : b < W.heap.size := by omega
  go_region_law
    (first
      | (refine step_call1 (by rfl) 62 (fun _ _ => by kernel_rfl) _ _ (by rfl) (.agg #[.int .i64 k, .int .i64 m, .string s, .slice A' n' c']) (by simp [Act.eval, Act.put]) (copy_any t _ _ _ HVW.out hm) ?_; rintro e w1 ⟨cs1, rfl, hv1, hb1⟩; refine ⟨_, rfl, ?_⟩; obtain ⟨k1', m1', s1', A1', n1', c1', rfl⟩ := isV_cells hv1; have HB1 := Lib.hid (show Below W.heap.size W w1 from ((Below.refl _ _).drew).trans hb1); have hz1 := HB1.out.size; have hb1w : b < w1.heap.size := (by omega); have q3' := (HB1.out.cell (p := ⟨b, 3, none⟩) hbW).trans q3; have HR1 := Lib.hid (own_below HRW.out HB1.out); clear hv1 hb1)
      | (refine step_append_lies _ (by rfl) _ _ _ (by rfl) base 184 i0 _ 5 64 Tryz.underlying78 hi jz0 jz1 jz2 rfl (by omega) (.slice A3 n3 c3) n3 xs (by rfl) (HR1.out.alloc _) ⟨w1.heap.size, 0, none⟩ 1 1 [.int .i64 kd, .int .i64 k1', .int .i64 m1', .string s1', .slice A1' n1' c1'] (by rfl) (by rfl) (cell_newL _ _ _ _ rfl) (cells5_one _ _ _ _ _ _ _) (by omega) (by unfold maxLen; omega) (by omega) (by simp; omega) (w1.heap.size + 1) (by simp) ?_; intro g cap w5 hown5 hgrow5 hat5 hlt5; have hneb : some b ≠ (Value.slice A3 n3 c3).ownBlock := (fun e => (HN.out b (HE.out.symm.trans e.symm)).1 rfl); have hb1' : b < w1.heap.size := (by omega); have hb5 : b < (w1.alloc (.cells #[.int .i64 kd, .int .i64 k1', .int .i64 m1', .string s1', .slice A1' n1' c1'] 184)).heap.size := (by simp; omega); have HC5 := Lib.hid (show ∀ o, w5.cell? ⟨b, o, none⟩ = w.cell? ⟨b, o, none⟩ from fun o => (grown_cell (b := b) (o := o) hgrow5 hb5 hneb).trans ((World.cell?_alloc_lt _ _ ⟨b, o, none⟩ hb1').trans ((HB1.out.cell (p := ⟨b, o, none⟩) hbW).trans (World.cell?_of_block (a := ⟨b, o, none⟩) (HFW.out.block b hbw (fun h => h)))))); have HZ5 := Lib.hid (show ∀ o, w5.frozen? ⟨b, o, none⟩ = false from fun o => (grown_frozen (b := b) (o := o) hgrow5 hb5 hneb).trans ((grown_frozen (b := b) (o := o) (World.grownBy_alloc w1 _ none) hb1' (by simp)).trans ((grown_frozen (b := b) (o := o) (grown_below (g := none) HB1.out) hbW (by simp)).trans ((HFW.out.frozen hbw (fun h => h)).trans (fz o))))); have HG5 := Lib.hid hgrow5; have HO5 := Lib.hid hown5; have HA5 := Lib.hid hat5; have x3 := (HC5.out 3).trans k3; have y3 := HZ5.out 3; clear hown5 hgrow5 hat5))
  all_goals
    try simp only [Act.put, List.getElem_toArray, List.getElem_cons_zero, List.getElem_cons_succ, List.setIfInBounds_toArray, List.set_cons_zero, List.set_cons_succ]
    have x4 := (HC5.out 4).trans k4
    have x5 := (HC5.out 5).trans k5
    have x6 := (HC5.out 6).trans k6
    have x7 := (HC5.out 7).trans k7
    have x8 := (HC5.out 8).trans k8
    have x9 := (HC5.out 9).trans k9
    have x10 := (HC5.out 10).trans k10
    have x11 := (HC5.out 11).trans k11
    have yf := HZ5.out
    have hgb : g ≠ b := fun e => by
      rcases HA5.out with h | h
      · exact (HN.out b (HE.out.symm.trans (h.trans (by rw [e])))).1 rfl
      · omega
    have hg0 : ib = some g ∨ w0.heap.size ≤ g := by
      rcases HA5.out with h | h
      · exact .inl (HE.out.symm.trans h)
      · have := HF.out.size; exact .inr (by omega)
    have hgr : g ≠ rb := fun e => by
      rcases HA5.out with h | h
      · exact (HN.out rb (HE.out.symm.trans (h.trans (by rw [e])))).2 rfl
      · have := HF.out.size; omega
    have hbg : base ≤ g := (HO5.out.lt g rfl).1
    have HFw5 := Lib.hid (show Fr (fun k => ib = some k) w w5 from ((((HFW.out.weak (S2 := fun k => ib = some k) (fun _ h => h.elim)).trans' (Fr.of_below HB1.out)).alloc _).trans (Fr.of_grown (S := fun k => ib = some k) HG5.out (fun k hk => .inl (HE.out.symm.trans hk))) (fun k h => .inl h)))
    have x0 := (HC5.out 0).trans k0
    have x1 := (HC5.out 1).trans k1
    have x2 := (HC5.out 2).trans k2
    have FIN := Lib.hid (show ∀ W', Fr (fun k => k = b) w5 W' → (∀ o u, ([.iface 236 (.pointer (some ⟨rb, 0, none⟩)), .string d.nm, .slice A2 n2 c2, .slice (some ⟨g, 0, none⟩) (n3 + 1) cap, .int .i64 0, .int .i64 0, .string ⟨#[]⟩, .int .i64 0, .int .i64 0, .string ⟨#[]⟩, .slice none 0 0, .slice none 0 0] : List Value)[o]? = some u → W'.cell? ⟨b, o, none⟩ = some u) → (∀ o, W'.frozen? ⟨b, o, none⟩ = false) → RecPost X base T b rb ib { d with r := r', dk := 0, dn := 0 } w0 (.tuple #[]) (.returned (.tuple #[])) W' from fun W' h1 h2 h3 => by
      have hFw : Fr (fun k => ib = some k ∨ k = b) w W' := (HFw5.out.weak (fun _ h => .inl h)).trans (h1.weak (S2 := fun k => k = b) (fun _ h => h)) (fun _ h => .inl (.inr h))
      obtain ⟨Ar, cr, vr, hs, hrun⟩ := HR.out
      refine ⟨rfl, some g, fun k hk => ?_, ⟨⟨Ar, cr, vr, hs.fr hFw (fun k hk => ?_), hrun.fr hFw (fun h => ?_)⟩, h2 0 _ rfl, h2 1 _ rfl, ⟨_, _, _, h2 2 _ rfl, fun e => absurd e (by show ¬ ((0 : Int) = 7); decide)⟩, ⟨_, _, _, _, h2 3 _ rfl, h1.row HO5.out (fun k hk => ?_), by omega, rfl, fun e => absurd e (by show ¬ ((0 : Int) = 7); decide)⟩, h2 4 _ rfl, h2 5 _ rfl, h2 6 _ rfl, h2 7 _ rfl, h2 8 _ rfl, h2 9 _ rfl, h2 10 _ rfl, h2 11 _ rfl, h3, hnr, fun k hk => ?_, ⟨lb1, lb2⟩, fun e => absurd e (by show ¬ ((0 : Int) = 7); decide), hp⟩, ?_⟩
      · injection hk with hk; exact hk ▸ hg0
      · rcases hk with hk | hk
        · exact (HI.out k hk).1
        · omega
      · rcases h with h | h
        · exact (HN.out _ h).2 rfl
        · exact hnr h.symm
      · injection hk with hk; exact fun e => hgb (show g = b from hk.trans e)
      · injection hk with hk; exact ⟨by omega, by omega⟩
      · exact (HF.out.weak (S2 := fun k => k = b ∨ k = rb ∨ ib = some k) (fun _ h => .inr (.inl h))).trans hFw (fun k hk => .inl (by rcases hk with h | h; exact .inr (.inr h); exact .inl h)))
    clear hgb hg0 hgr hbg
    go_wp2_with fail
    refine bodyPost_end (results_none rfl _ _ _) rfl (FIN.out _ ?_ ?_ ?_)
    · (repeat' first | with_reducible exact Fr.refl (fun k => k = _) _ | (with_reducible refine Fr.setAt ?_ _) | with_reducible refine Fr.alloc ?_ _ | with_reducible refine Fr.drewN ?_ _ | with_reducible refine Fr.drew ?_)
    · intro o u ho
      rcases o with _ | _ | _ | _ | _ | _ | _ | _ | _ | _ | _ | _ | o
      all_goals (simp at ho)
      all_goals (subst ho; simp [go_sem, x0, x1, x2, x3, x4, x5, x6, x7, x8, x9, x10, x11])
    · intro o; simp [go_sem, yf]
end Go.Proofs.YtjjfglbcikaicaaGreat
namespace Go.Proofs.YtjjfglbcikaicaaGreat
open Go.RowKit Go.Maps
set_option linter.unusedVariables false
set_option linter.unusedSimpArgs false
theorem cell4_new (w : World) (a b c d : Value) (t : TypeId) (j : Nat) (u : Value) (h : [a, b, c, d][j]? = some u) : (w.alloc (.cells #[a, b, c, d] t)).drew.cell? ⟨w.heap.size, j, none⟩ = some u := by
  have := cell_four_new w a b c d t j u h
  rw [Addr.add_lit, Nat.zero_add] at this
  exact this
theorem meth_give (rb : Nat) : ∀ w, Sem.run Tryz.prog (method 341 236 (.pointer (some ⟨rb, 0, none⟩)) "Give") w = .ok (158, .pointer (some ⟨rb, 0, none⟩)) w := fun _ => by kernel_rfl
theorem meth_late (rb : Nat) : ∀ w, Sem.run Tryz.prog (method 341 236 (.pointer (some ⟨rb, 0, none⟩)) "Late") w = .ok (159, .pointer (some ⟨rb, 0, none⟩)) w := fun _ => by kernel_rfl
theorem meth_offer (rb : Nat) : ∀ w, Sem.run Tryz.prog (method 341 236 (.pointer (some ⟨rb, 0, none⟩)) "Offer") w = .ok (160, .pointer (some ⟨rb, 0, none⟩)) w := fun _ => by kernel_rfl
/-- nothing but new memory -/
theorem rec_same {X : Nat → Prop} {base T b rb : Nat} {ib : Option Nat} {d : DiaS} {w w' : World} {v : Value} (H : DiaAt w X base T b rb ib d) (hX : ∀ k, ib = some k → X k) (hf : Fr (fun _ => False) w w') : RecPost X base T b rb ib d w v (.returned v) w' :=
  ⟨rfl, ib, fun k hk => .inl hk, H.fr hf (fun _ h => h.elim) (fun k hk => .inl (by rcases hk with h | h; exact h; exact hX k h)) (fun _ h => h.elim) (by omega) (fun h => h) (fun h => h) (fun _ _ h => h), hf.weak fun _ h => h.elim⟩
set_option maxRecDepth 100000 in
set_option maxHeartbeats 4000000 in
theorem dgive_any (X : Nat → Prop) (base T b rb : Nat) (ib : Option Nat) (d : DiaS) (w : World) (x : Int) (H : DiaAt w X base T b rb ib d) (hI : ∀ k, ib = some k → X k) (hT : T < 1000000000000) :
    Calls Tryz.prog 83 #[.pointer (some ⟨b, 0, none⟩), .agg #[.int .i64 6, .int .i64 x, .string ⟨#[]⟩, .slice none 0 0]] w (RecPost X base T b rb ib (giveD d x) w (.tuple #[])) := by
  have HH := Lib.hid H
  have hm := meth_give rb
  have c0 := H.c0
  have c4 := H.c4
  have fz := H.fz
  obtain ⟨hlt, hlr, _⟩ := H.lt
  have hnr := H.nr
  have HI := Lib.hid hI
  clear H hI
  by_cases hk : d.dk = 4
  · have HE := Lib.hid (show giveD d x = { d with r := giveR d.r x, dk := 0, dn := 0 } by unfold giveD; rw [if_pos hk])
    rw [hk] at c4
    have HK := Lib.hid hk
    clear hk
    go_enter Tryz.func83, Tryz.ntmps83
    go_wp2_with fail
    obtain ⟨A, c, vo, hs, hrun⟩ := HH.out.run
    have HS := Lib.hid hs
    have HRun := Lib.hid hrun
    clear hs hrun
    have hne : w.heap.size ≠ rb := by omega
    go_cut [20] (fun _ wx => Hid (RunAt wx rb A d.l.length c (giveR d.r x)) ∧ Hid (Fr (fun k => k = rb) w wx) ∧ (∀ j u, ([.int .i64 6, .int .i64 x, .string ⟨#[]⟩, .slice none 0 0] : List Value)[j]? = some u → wx.cell? ⟨w.heap.size, j, none⟩ = some u))
    case first =>
      go_region_with (first | (go_at_call 158; refine (give_any rb d.l.length c A none 0 0 d.r 6 x ⟨#[]⟩ _ (HRun.out.fr (S := fun _ => False) (((Fr.refl _ w).alloc _).drew) (fun h => h))).mono ?_; rintro e w1 ⟨rfl, hr1, hf1⟩; have HR1 := Lib.hid hr1; have HF1 := Lib.hid (((Fr.refl (fun k => k = rb) w).alloc _).drew.trans' hf1); have HF2 := Lib.hid hf1; clear hr1 hf1))
      all_goals
        go_wp2_with fail
        go_meet
        refine ⟨HR1, HF1, fun j u hj => HF2.out.cell (cell4_new w _ _ _ _ _ j u hj) hne⟩
    case rest =>
      obtain ⟨HR1, HF1, hbx⟩ := hcut
      have q0 := hbx 0 _ rfl
      have q1 := hbx 1 _ rfl
      have q2 := hbx 2 _ rfl
      have q3 := hbx 3 _ rfl
      clear hbx
      go_wp2_with fail
      refine (record_any X base T b rb ib d (giveR d.r x) w wc 1 (vLeaf 6 x) _ (fun _ => True) HH.out hT HF1.out ⟨A, c, vo, HS.out.fr HF1.out (fun k hk => by have := HH.out.lb; omega), HR1.out⟩ (HH.out.pl.give x) (leaf_V wc _ 6 x) (by simp [vLeaf, VT.many, sumTo])).mono ?_
      rintro e w2 ⟨rfl, hp⟩
      go_wp2_with fail
      refine bodyPost_end (results_none rfl _ _ _) rfl ?_
      rw [HE.out]
      exact ⟨rfl, hp⟩
  · have HE := Lib.hid (show giveD d x = d by unfold giveD; rw [if_neg hk])
    have hk' : (d.dk == 4) = false := by simpa using hk
    clear hk
    go_enter Tryz.func83, Tryz.ntmps83
    go_wp2_with fail
    refine bodyPost_end (results_none rfl _ _ _) rfl ?_
    rw [HE.out]
    exact rec_same HH.out HI.out ((Fr.refl _ w).alloc _)
theorem DiaAt.rerun {w w' : World} {X : Nat → Prop} {base T b rb : Nat} {ib : Option Nat} {d : DiaS} (h : DiaAt w X base T b rb ib d) (hf : Fr (fun k => k = rb) w w') (hX : X rb) (hr : ∃ A c vo, ScrAt w' base A c d.l vo ∧ RunAt w' rb A d.l.length c d.r) : DiaAt w' X base T b rb ib d := by
  have h1 : ¬ b = rb := h.nr
  have h3 : ∀ k, ib = some k → ¬ k = rb := fun k hk => (h.ni k hk).2
  obtain ⟨A2, n2, c2, s1, s2⟩ := h.c2
  obtain ⟨A3, n3, c3, xs, t1, t2, t3, t4, t5⟩ := h.c3
  exact ⟨hr, hf.cell h.c0 h1, hf.cell h.c1 h1, ⟨A2, n2, c2, hf.cell s1 h1, fun e => by obtain ⟨u1, u2, u3, u4⟩ := s2 e; exact ⟨u1, u2, u3, u4.fr (X' := X) hf (fun k hk => hk ▸ hX) (fun k hk => .inl hk)⟩⟩,
    ⟨A3, n3, c3, xs, hf.cell t1 h1, hf.row t2 (fun k hk => h3 k (t4.symm.trans hk)), t3, t4, t5⟩, hf.cell h.c4 h1, hf.cell h.c5 h1, hf.cell h.c6 h1, hf.cell h.c7 h1, hf.cell h.c8 h1, hf.cell h.c9 h1, hf.cell h.c10 h1, hf.cell h.c11 h1,
    fun o => (hf.frozen (World.block_lt_of_cell? w _ h.c0) h1).trans (h.fz o), h.nr, h.ni, h.lb, h.wt, h.pl⟩
set_option maxRecDepth 100000 in
set_option maxHeartbeats 4000000 in
theorem dlate_any (X : Nat → Prop) (base T b rb : Nat) (ib : Option Nat) (d : DiaS) (w : World) (H : DiaAt w X base T b rb ib d) (hI : ∀ k, ib = some k → X k) (hT : T < 1000000000000) :
    Calls Tryz.prog 110 #[.pointer (some ⟨b, 0, none⟩)] w (RecPost X base T b rb ib (lateD d) w (.tuple #[])) := by
  have HH := Lib.hid H
  have hm := meth_late rb
  have c0 := H.c0
  have c4 := H.c4
  have c5 := H.c5
  have fz := H.fz
  obtain ⟨hlt, hlr, _⟩ := H.lt
  have hnr := H.nr
  have HI := Lib.hid hI
  clear H hI
  by_cases hk : d.dk = 7
  · by_cases hn : 0 ≤ d.dn
    · have HE := Lib.hid (show lateD d = { d with r := lateR d.r, dk := 0, dn := 0 } by unfold lateD; rw [if_pos ⟨hk, hn⟩])
      have hw := HH.out.wt hk
      have hp := (HH.out.pl.1 hw).1
      rw [hk] at c4
      have HK := Lib.hid hk
      obtain ⟨A, c, vo, hs, hrun⟩ := HH.out.run
      have hl := hs.2.2.1
      have HS := Lib.hid hs
      have HRun := Lib.hid hrun
      have HW := Lib.hid hw
      have HP := Lib.hid hp
      clear hk hs hrun hw
      go_enter Tryz.func110, Tryz.ntmps110
      go_wp2_with fail
      refine (late_any rb d.l.length c A d.r w HRun.out (by omega)).mono ?_
      rintro e w1 ⟨rfl, hr1, hf1⟩
      have HR1 := Lib.hid hr1
      have HF1 := Lib.hid hf1
      clear hr1 hf1
      go_wp2_with fail
      refine (record_any X base T b rb ib d (lateR d.r) w w1 3 (vLeaf 0 0) _ (fun _ => True) HH.out hT HF1.out ⟨A, c, vo, HS.out.fr HF1.out (fun k hk => by have := HH.out.lb; omega), HR1.out⟩ HH.out.pl.late (leaf_V w1 _ 0 0) (by simp [vLeaf, VT.many, sumTo])).mono ?_
      rintro e w2 ⟨rfl, hp⟩
      go_wp2_with fail
      refine bodyPost_end (results_none rfl _ _ _) rfl ?_
      rw [HE.out]
      exact ⟨rfl, hp⟩
    · have HE := Lib.hid (show lateD d = d by unfold lateD; rw [if_neg (fun h => hn h.2)])
      rw [hk] at c4
      clear hk
      go_enter Tryz.func110, Tryz.ntmps110
      go_wp2_with fail
      refine bodyPost_end (results_none rfl _ _ _) rfl ?_
      rw [HE.out]
      exact rec_same HH.out HI.out (Fr.refl _ w)
  · have HE := Lib.hid (show lateD d = d by unfold lateD; rw [if_neg (fun h => hk h.1)])
    have hk' : (d.dk == 7) = false := by simpa using hk
    clear hk
    go_enter Tryz.func110, Tryz.ntmps110
    go_wp2_with fail
    refine bodyPost_end (results_none rfl _ _ _) rfl ?_
    rw [HE.out]
    exact rec_same HH.out HI.out (Fr.refl _ w)
end Go.Proofs.YtjjfglbcikaicaaGreat
namespace Go.Proofs.YtjjfglbcikaicaaGreat
open Go.RowKit Go.Maps
set_option linter.unusedVariables false
set_option linter.unusedSimpArgs false
theorem offerR_no {l : List Stp} {r : RunS} {k x : Int} (h : (offerR l r k x).2 = false) : (offerR l r k x).1 = r := by
  unfold offerR at h ⊢
  split
  · split
    · rename_i h1 h2; rw [if_pos h1, if_pos h2] at h; cases h
    · rfl
  · rfl
theorem offerR_yes {l : List Stp} {r : RunS} {k x : Int} (h : (offerR l r k x).2 = true) : (offerR l r k x).1.waiting = false := by
  unfold offerR at h ⊢
  split
  · split
    · rfl
    · rename_i h1 h2; rw [if_pos h1, if_neg h2] at h; cases h
  · rename_i h1; rw [if_neg h1] at h; cases h
def DofPost (X : Nat → Prop) (base T b rb : Nat) (ib : Option Nat) (d : DiaS) (t : VT) (w : World) (e : Ending) (w' : World) : Prop :=
  ((offerD d t).2 = false ∧ e = .returned (.bool false) ∧ DiaAt w' X base T b rb ib d ∧ Fr (fun k => k = b ∨ k = rb ∨ ib = some k) w w') ∨ ((offerD d t).2 = true ∧ RecPost X base T b rb ib (offerD d t).1 w (.bool true) e w')
set_option maxRecDepth 100000 in
set_option maxHeartbeats 4000000 in
theorem doffer_any (X : Nat → Prop) (base T b rb : Nat) (ib : Option Nat) (d : DiaS) (t : VT) (cs : List Value) (S : Nat → Prop) (w : World) (H : DiaAt w X base T b rb ib d) (hI : ∀ k, ib = some k → X k) (hXr : X rb) (hT : T < 1000000000000) (hv : t.isV w S cs) (hSX : ∀ k, S k → k ≠ rb) (hmany : t.many ≤ 4194304) :
    Calls Tryz.prog 109 #[.pointer (some ⟨b, 0, none⟩), .agg cs.toArray] w (DofPost X base T b rb ib d t w) := by
  have HH := Lib.hid H
  have hm := meth_offer rb
  have c0 := H.c0
  have c4 := H.c4
  have fz := H.fz
  obtain ⟨hlt, hlr, _⟩ := H.lt
  have hnr := H.nr
  have HI := Lib.hid hI
  have HXR := Lib.hid hXr
  have HV := Lib.hid hv
  obtain ⟨k, m, s, A', n', c', hcs⟩ := isV_cells hv
  have HKN := Lib.hid (show vkind t = k ∧ vnum t = m by
    cases t with
    | none => exact hv.elim
    | node a b c d e =>
      obtain ⟨A, c, e, _⟩ := hv
      rw [hcs] at e
      simp at e
      exact ⟨e.1.symm, e.2.1.symm⟩)
  subst hcs
  clear H hI hXr hv
  by_cases hk : d.dk = 7
  · have hw := HH.out.wt hk
    have hp := (HH.out.pl.1 hw).1
    have HE := Lib.hid (show offerD d t = if (offerR d.l d.r k m).2 then ({ d with r := (offerR d.l d.r k m).1, dk := 0, dn := 0 }, true) else (d, false) by unfold offerD; rw [if_pos hk, HKN.out.1, HKN.out.2])
    rw [hk] at c4
    obtain ⟨A, c, vo, hs, hrun⟩ := HH.out.run
    have HS := Lib.hid hs
    have HRun := Lib.hid hrun
    have HW := Lib.hid hw
    have HP := Lib.hid hp
    have hne : w.heap.size ≠ rb := by omega
    clear hk hs hrun hw hp
    go_enter Tryz.func109, Tryz.ntmps109
    go_wp2_with fail
    go_cut [19] (fun v wx => v = .bool (!(offerR d.l d.r k m).2) ∧ Hid (RunAt wx rb A d.l.length c (offerR d.l d.r k m).1) ∧ Hid (Fr (fun k => k = rb) w wx) ∧ (∀ j u, ([.int .i64 k, .int .i64 m, .string s, .slice A' n' c'] : List Value)[j]? = some u → wx.cell? ⟨w.heap.size, j, none⟩ = some u))
    case first =>
      go_region_with (first | (go_at_call 160; refine (offer_yes base rb c A A' n' c' d.l vo d.r k m s _ (HRun.out.fr (S := fun _ => False) (((Fr.refl _ w).alloc _).drew) (fun h => h)) (HS.out.fr (((Fr.refl (fun _ => False) w).alloc _).drew) (fun _ h => h.elim)) HH.out.lb.2 HW.out HP.out).mono ?_; rintro e w1 ⟨rfl, hr1, hf1⟩; have HR1 := Lib.hid hr1; have HF1 := Lib.hid (((Fr.refl (fun k => k = rb) w).alloc _).drew.trans' hf1); have HF2 := Lib.hid hf1; clear hr1 hf1))
      all_goals
        go_wp2_with fail
        go_meet
        refine ⟨rfl, HR1, HF1, fun j u hj => HF2.out.cell (cell4_new w _ _ _ _ _ j u hj) hne⟩
    case rest =>
      obtain ⟨rfl, HR1, HF1, hbx⟩ := hcut
      have q0 := hbx 0 _ rfl
      have q1 := hbx 1 _ rfl
      have q2 := hbx 2 _ rfl
      have q3 := hbx 3 _ rfl
      clear hbx
      rcases hb : (offerR d.l d.r k m).2 with _ | _
      · have HB := Lib.hid hb
        have HE2 := Lib.hid (HE.out.trans (if_neg (by rw [hb]; decide)))
        clear hb
        go_wp2_with fail
        go_ret
        refine .inl ⟨by rw [HE2.out], rfl, ?_, HF1.out.weak (fun k h => .inr (.inl h))⟩
        have hr := HR1.out
        rw [offerR_no HB.out] at hr
        exact HH.out.rerun HF1.out HXR.out ⟨A, c, vo, HS.out.fr HF1.out (fun k hk => by have := HH.out.lb; omega), hr⟩
      · have HB := Lib.hid hb
        have HE2 := Lib.hid (HE.out.trans (if_pos hb))
        clear hb
        go_wp2_with fail
        refine (record_any X base T b rb ib d (offerR d.l d.r k m).1 w wc 2 t _ S HH.out hT HF1.out ⟨A, c, vo, HS.out.fr HF1.out (fun k hk => by have := HH.out.lb; omega), HR1.out⟩ (HH.out.pl.offer k m) ?_ hmany).mono ?_
        · exact isV_frame (by have := HF1.out.size; omega) (fun b hs hlt => ⟨hs, HF1.out.block b hlt (fun e => hSX b hs e)⟩) HV.out
        rintro e w2 ⟨rfl, hp⟩
        go_wp2_with fail
        go_ret
        exact .inr ⟨by rw [HE2.out], by rw [HE2.out]; exact ⟨rfl, hp⟩⟩
  · have HE := Lib.hid (show offerD d t = (d, false) by unfold offerD; rw [if_neg hk])
    have hk' : (d.dk == 7) = false := by simpa using hk
    have hk2 : (d.dk != 7) = true := by simpa using hk
    have hk3 : decide (d.dk = 7) = false := decide_eq_false hk
    clear hk
    go_enter Tryz.func109, Tryz.ntmps109
    go_wp2_with fail
    go_region
    all_goals
      go_wp2_with fail
      go_ret
      have hfw : Fr (fun _ => False) w ((w.alloc (.cells #[.int .i64 k, .int .i64 m, .string s, .slice A' n' c'] 41)).drewN 1) := ((Fr.refl _ w).alloc _).drewN 1
      exact .inl ⟨by rw [HE.out], rfl, HH.out.fr (X' := X) hfw (fun _ h => h.elim) (fun k hk => .inl hk) (fun _ h => h.elim) (Nat.le_refl _) (fun h => h) (fun h => h) (fun _ _ h => h), hfw.weak (fun _ h => h.elim)⟩
end Go.Proofs.YtjjfglbcikaicaaGreat
namespace Go.Proofs.YtjjfglbcikaicaaGreat
open Go.RowKit Go.Maps
set_option linter.unusedVariables false
set_option linter.unusedSimpArgs false
theorem meth_run (rb : Nat) : ∀ w, Sem.run Tryz.prog (method 341 236 (.pointer (some ⟨rb, 0, none⟩)) "Run") w = .ok (161, .pointer (some ⟨rb, 0, none⟩)) w := fun _ => by kernel_rfl
theorem meth_top (rb : Nat) : ∀ w, Sem.run Tryz.prog (method 341 236 (.pointer (some ⟨rb, 0, none⟩)) "Top") w = .ok (162, .pointer (some ⟨rb, 0, none⟩)) w := fun _ => by kernel_rfl
set_option maxRecDepth 100000 in
set_option maxHeartbeats 400000 in
theorem values_any (n c : Nat) (A : Option Addr) (arg : Nat → VT) (S : Nat → Prop) (w : World) (hn : n ≤ 4194304) (hV : RdV w S A n arg) (hm : ∀ i, i < n → (arg i).many ≤ 4194304) : Calls Tryz.prog 76 #[.slice A n c] w (EachPost n arg w) := by
  have HC := Lib.hid (each_any n c A arg S w hn hV hm (fun i _ => copy_any _))
  clear hV hm
  go_enter Tryz.func76, Tryz.ntmps76
  go_wp2_with fail
  refine HC.out.mono ?_
  rintro e w1 ⟨v, C, rfl, h1, h2, h3, h4⟩
  have H1 := Lib.hid h1
  have H3 := Lib.hid h3
  clear h1 h3
  go_wp2_with fail
  go_ret
  exact ⟨v, C, rfl, H1.out, h2, H3.out, h4⟩
/-- what Each made, as values that lie in a slice -/
theorem each_rdv {w : World} {n base : Nat} {arg : Nat → VT} {v : Value} {C : Nat → List Value} (h1 : w.ownsRow base 41 4 v n (flatC C n)) (h2 : ∀ i, (C i).length = 4) (h3 : ∀ i, i < n → (arg i).isV w (fun b => base ≤ b ∧ some b ≠ v.ownBlock) (C i)) : ∃ A c, v = .slice A n c ∧ n ≤ c ∧ c ≤ 9223372036854775807 ∧ RdV w (fun b => base ≤ b) A n arg := by
  obtain ⟨A, c, rfl, hc1, hc2, hc3⟩ := own_any h1
  refine ⟨A, c, rfl, hc1, hc2, fun h0 => ?_⟩
  obtain ⟨g, cap, hv, hb, hlt, _⟩ := own_form h1 h0
  injection hv with e1 e2 e3
  subst e1 e3
  exact ⟨g, 0, rfl, hlt, hb, C, fun i hi => ⟨isV_mono (h3 i hi) (fun b _ hb => hb.1), fun j u hu => by
    have hj : j < 4 := by
      rcases Nat.lt_or_ge j 4 with hh | hh
      · exact hh
      · rw [List.getElem?_eq_none (by rw [h2]; exact hh)] at hu; cases hu
    rw [Nat.zero_add, own_cellC h1 h2 hi hj]
    exact hu⟩⟩
theorem dia_mk {w W : World} {X : Nat → Prop} {base T T' b rb : Nat} {ib ib' : Option Nat} {d : DiaS} {r' : RunS} {k m : Int} {A : Option Addr} {c : Nat} {vo : Nat → Value} {sA iA : Option Addr} {sn sc n ic : Nat} {xs : List Value} (H : DiaAt w X base T b rb ib d) (hs : ScrAt W base A c d.l vo) (hr : RunAt W rb A d.l.length c r')
    (hc : ∀ q u, ([.iface 236 (.pointer (some ⟨rb, 0, none⟩)), .string d.nm, .slice sA sn sc, .slice iA n ic, .int .i64 k, .int .i64 m, .string ⟨#[]⟩, .int .i64 0, .int .i64 0, .string ⟨#[]⟩, .slice none 0 0, .slice none 0 0] : List Value)[q]? = some u → W.cell? ⟨b, q, none⟩ = some u)
    (hz : ∀ q, W.frozen? ⟨b, q, none⟩ = false) (h2 : k = 7 → sn = 2 ∧ 2 ≤ sc ∧ sc ≤ 9223372036854775807 ∧ RdV W (fun k => ¬ X k) sA 2 (topV r')) (h3 : W.ownsRow base 184 5 (.slice iA n ic) n xs) (hn : n ≤ T') (hb : (Value.slice iA n ic).ownBlock = ib') (h7 : k = 7 → n = 0 ∧ iA = none ∧ ic = 0)
    (hi : ∀ k, ib' = some k → k ≠ b ∧ k ≠ rb) (hw : k = 7 → r'.waiting = true) (ho : RunOk d.l r') : DiaAt W X base T' b rb ib' { d with r := r', dk := k, dn := m } :=
  ⟨⟨A, c, vo, hs, hr⟩, hc 0 _ rfl, hc 1 _ rfl, ⟨_, _, _, hc 2 _ rfl, h2⟩, ⟨_, _, _, _, hc 3 _ rfl, h3, hn, hb, h7⟩, hc 4 _ rfl, hc 5 _ rfl, hc 6 _ rfl, hc 7 _ rfl, hc 8 _ rfl, hc 9 _ rfl, hc 10 _ rfl, hc 11 _ rfl, hz, H.nr, hi, H.lb, hw, ho⟩
theorem DiaAt.rerun2 {w w' : World} {X : Nat → Prop} {base T b rb : Nat} {ib : Option Nat} {d : DiaS} {r' : RunS} (h : DiaAt w X base T b rb ib d) (hf : Fr (fun k => k = rb) w w') (hX : X rb) (hr : ∃ A c vo, ScrAt w' base A c d.l vo ∧ RunAt w' rb A d.l.length c r') (ho : RunOk d.l r') (h7 : d.dk = 7 → r' = d.r) : DiaAt w' X base T b rb ib { d with r := r' } := by
  by_cases e : d.dk = 7
  · have := h7 e
    subst this
    exact h.rerun hf hX hr
  · have h1 : ¬ b = rb := h.nr
    have h3 : ∀ k, ib = some k → ¬ k = rb := fun k hk => (h.ni k hk).2
    obtain ⟨A2, n2, c2, s1, s2⟩ := h.c2
    obtain ⟨A3, n3, c3, xs, t1, t2, t3, t4, t5⟩ := h.c3
    exact ⟨hr, hf.cell h.c0 h1, hf.cell h.c1 h1, ⟨A2, n2, c2, hf.cell s1 h1, fun e2 => absurd e2 e⟩,
      ⟨A3, n3, c3, xs, hf.cell t1 h1, hf.row t2 (fun k hk => h3 k (t4.symm.trans hk)), t3, t4, t5⟩, hf.cell h.c4 h1, hf.cell h.c5 h1, hf.cell h.c6 h1, hf.cell h.c7 h1, hf.cell h.c8 h1, hf.cell h.c9 h1, hf.cell h.c10 h1, hf.cell h.c11 h1,
      fun o => (hf.frozen (World.block_lt_of_cell? w _ h.c0) h1).trans (h.fz o), h.nr, h.ni, h.lb, fun e2 => absurd e2 e, ho⟩
/-- a world in the midst of Run -/
structure DM (w w1 : World) (b rb n : Nat) (A : Option Addr) (c : Nat) (r' : RunS) (o : OutS) (nm : ByteArray) (v2 v3 : Value) (wx : World) : Prop where
  cb : ∀ q u, ([.iface 236 (.pointer (some ⟨rb, 0, none⟩)), .string nm, v2, v3, .int .i64 o.kind, .int .i64 o.num, .string ⟨#[]⟩, .int .i64 0, .int .i64 0, .string ⟨#[]⟩, .slice none 0 0, .slice none 0 0] : List Value)[q]? = some u → wx.cell? ⟨b, q, none⟩ = some u
  fb : ∀ q, wx.frozen? ⟨b, q, none⟩ = false
  cy : ∀ j u, ([.int .i64 0, .int .i64 0, .string ⟨#[]⟩, .int .i64 0, .int .i64 0, .string ⟨#[]⟩, .slice none 0 0, .slice none 0 0] : List Value)[j]? = some u → wx.cell? ⟨w.heap.size, j, none⟩ = some u
  fy : ∀ j, wx.frozen? ⟨w.heap.size, j, none⟩ = false
  co : ∀ j u, (outC o)[j]? = some u → wx.cell? ⟨w1.heap.size, j, none⟩ = some u
  run : RunAt wx rb A n c r'
  fr : Fr (fun k => k = b ∨ k = rb) w wx
  lt : w1.heap.size < wx.heap.size
theorem DM.below {w w1 : World} {b rb n : Nat} {A : Option Addr} {c : Nat} {r' : RunS} {o : OutS} {nm : ByteArray} {v2 v3 : Value} {wx wy : World} (h : DM w w1 b rb n A c r' o nm v2 v3 wx) (hb : Below wx.heap.size wx wy) (hbw : b < wx.heap.size) (hw : w.heap.size < wx.heap.size) : DM w w1 b rb n A c r' o nm v2 v3 wy := by
  have hf := Fr.of_below (S := fun _ => False) hb
  exact ⟨fun q u h' => hf.cell (h.cb q u h') (fun h => h), fun q => (hf.frozen hbw (fun h => h)).trans (h.fb q), fun q u h' => hf.cell (h.cy q u h') (fun h => h), fun q => (hf.frozen hw (fun h => h)).trans (h.fy q), fun q u h' => hf.cell (h.co q u h') (fun h => h), h.run.fr hf (fun h => h), h.fr.trans' (hf.weak (fun _ h => h.elim)), Nat.lt_of_lt_of_le h.lt hb.size⟩
def last8 (W : World) (b : Nat) (k n : Int) : World := (((((((W.setCell ⟨b, 4, none⟩ (.int .i64 k)).setCell ⟨b, 5, none⟩ (.int .i64 n)).setCell ⟨b, 6, none⟩ (.string ⟨#[]⟩)).setCell ⟨b, 7, none⟩ (.int .i64 0)).setCell ⟨b, 8, none⟩ (.int .i64 0)).setCell ⟨b, 9, none⟩ (.string ⟨#[]⟩)).setCell ⟨b, 10, none⟩ (.slice none 0 0)).setCell ⟨b, 11, none⟩ (.slice none 0 0)
theorem blk_setN {W wr : World} {b k o : Nat} {u : Value} (h : W.heap[b]? = wr.heap[b]?) (hne : b ≠ k) : (W.setCell ⟨k, o, none⟩ u).heap[b]? = wr.heap[b]? := (Below.heap_setCell W ⟨k, o, none⟩ u b hne).trans h
theorem Fr.setIn {S : Nat → Prop} {b o : Nat} {w w1 : World} (h : Fr S w w1) (hb : S b) (u : Value) : Fr S w (w1.setCell ⟨b, o, none⟩ u) := h.set (Or.inl hb) u
def DrunPost (X : Nat → Prop) (base T b rb : Nat) (ib : Option Nat) (p : DiaS × OutS) (w0 : World) (e : Ending) (w' : World) : Prop :=
  e = .returned (.agg (outC p.2).toArray) ∧ ∃ ib', (ib' = ib ∨ ib' = none) ∧ DiaAt w' X base T b rb ib' p.1 ∧ Fr (fun k => k = b ∨ k = rb ∨ ib = some k) w0 w' ∧ (p.2.kind = 7 → p.1.dk = 7)
set_option maxRecDepth 100000 in
set_option maxHeartbeats 4000000 in
theorem drun_any (X : Nat → Prop) (base T b rb f : Nat) (ib : Option Nat) (d : DiaS) (w : World) (H : DiaAt w X base T b rb ib d) (hX : ∀ k, X k → k < w.heap.size) (hI : X b ∧ X rb) (hf : f ≤ 1000000) :
    Calls Tryz.prog 81 #[.pointer (some ⟨b, 0, none⟩), .int .i64 (f : Int)] w (DrunPost X base T b rb ib (runD f d) w) := by
  have HH := Lib.hid H
  have hm := meth_run rb
  have hm2 := meth_top rb
  have c0 := H.c0
  have fz := H.fz
  obtain ⟨hlt, hlr, _⟩ := H.lt
  have hnr := H.nr
  have HX := Lib.hid hX
  have HI := Lib.hid hI
  obtain ⟨A, c, vo, hs, hrun⟩ := HH.out.run
  have HS := Lib.hid hs
  have HRun := Lib.hid hrun
  obtain ⟨hRok, hR7⟩ := RunOk.run f HH.out.pl
  have HRok := Lib.hid hRok
  have HR7 := Lib.hid hR7
  have HD1 := Lib.hid (show (runR d.l f d.r).2.kind = 1 → runD f d = ({ d with r := (runR d.l f d.r).1 }, (runR d.l f d.r).2) from fun e => by unfold runD; simp only []; rw [if_pos e])
  have HD2 := Lib.hid (show ¬ (runR d.l f d.r).2.kind = 1 → runD f d = ({ d with r := (runR d.l f d.r).1, dk := (runR d.l f d.r).2.kind, dn := (runR d.l f d.r).2.num }, (runR d.l f d.r).2) from fun e => by unfold runD; simp only []; rw [if_neg e])
  have HWt := Lib.hid (show d.r.waiting = true → (runR d.l f d.r).1 = d.r from runR_wait)
  clear H hX hI hs hrun hRok hR7
  go_enter Tryz.func81, Tryz.ntmps81
  go_wp2_with fail
  refine (run_any base rb c f A d.l vo d.r _ (HRun.out.fr (S := fun _ => False) ((Fr.refl _ w).alloc _) (fun h => h)) (HS.out.fr ((Fr.refl (fun _ => False) w).alloc _) (fun _ h => h.elim)) HH.out.lb.2 hf).mono ?_
  generalize hp : runR d.l f d.r = p at *
  clear hp
  obtain ⟨r', o⟩ := p
  dsimp only at *
  rintro e w1 ⟨rfl, hr1, hf1⟩
  have HF1 := Lib.hid (((Fr.refl (fun k => k = rb) w).alloc _).trans' hf1)
  have HFr := HF1
  have HR1 := Lib.hid hr1
  have hz1 := hf1.size
  simp at hz1
  have x0 := HF1.out.cell HH.out.c0 hnr
  have x1 := HF1.out.cell HH.out.c1 hnr
  obtain ⟨A2, n2, c2, e2, f2⟩ := HH.out.c2
  obtain ⟨A3, n3, c3, xs, e3, f3, f4, f5, f6⟩ := HH.out.c3
  have x2 := HF1.out.cell e2 hnr
  have x3 := HF1.out.cell e3 hnr
  have x4 := HF1.out.cell HH.out.c4 hnr
  have x5 := HF1.out.cell HH.out.c5 hnr
  have x6 := HF1.out.cell HH.out.c6 hnr
  have x7 := HF1.out.cell HH.out.c7 hnr
  have x8 := HF1.out.cell HH.out.c8 hnr
  have x9 := HF1.out.cell HH.out.c9 hnr
  have x10 := HF1.out.cell HH.out.c10 hnr
  have x11 := HF1.out.cell HH.out.c11 hnr
  have xf : ∀ q, w1.frozen? ⟨b, q, none⟩ = false := fun q => (HF1.out.frozen hlt hnr).trans (fz q)
  have hnq : w.heap.size ≠ rb := by omega
  have hqb : w.heap.size ≠ b := by omega
  have hbq : b ≠ w.heap.size := by omega
  have hb1 : b < w1.heap.size := by omega
  have hq1 : w.heap.size < w1.heap.size := by omega
  have HQ := Lib.hid (show ∀ j u, ([.int .i64 0, .int .i64 0, .string ⟨#[]⟩, .int .i64 0, .int .i64 0, .string ⟨#[]⟩, .slice none 0 0, .slice none 0 0] : List Value)[j]? = some u → w1.cell? ⟨w.heap.size, j, none⟩ = some u from fun j u hj => hf1.cell (by have := cell_newL w _ 152 _ rfl j u hj; rw [Addr.add_lit, Nat.zero_add] at this; exact this) hnq)
  have y0 := HQ.out 0 _ rfl
  have y1 := HQ.out 1 _ rfl
  have y2 := HQ.out 2 _ rfl
  have y3 := HQ.out 3 _ rfl
  have y4 := HQ.out 4 _ rfl
  have y5 := HQ.out 5 _ rfl
  have y6 := HQ.out 6 _ rfl
  have y7 := HQ.out 7 _ rfl
  have yf : ∀ j, w1.frozen? ⟨w.heap.size, j, none⟩ = false := fun j => (hf1.frozen (by simp) hnq).trans (by simp [go_sem])
  have HC2 := Lib.hid f2
  have HC3 := Lib.hid (And.intro f3 (And.intro f4 (And.intro f5 f6)))
  clear hr1 hf1 c0 fz e2 e3 f2 f3 f4 f5 f6
  simp only [outC]
  by_cases h1 : o.kind = 1
  · have H1 := Lib.hid h1
    rw [h1]
    clear h1
    go_wp2_with fail
    refine bodyPost_ret (outC_results (o := o) (q := w.heap.size) (fun j u hj => ?_) rfl rfl) rfl ⟨?_, ib, .inl rfl, ?_, ?_, ?_⟩
    · unfold outC at hj
      rw [H1.out] at hj
      rcases j with _ | _ | _ | _ | _ | _ | _ | _ | j
      all_goals (simp at hj)
      all_goals (subst hj; simp [go_sem, hq1, y0, y1, y2, y3, y4, y5, y6, y7])
    · rw [HD1.out H1.out]
    · rw [HD1.out H1.out]
      refine DiaAt.rerun2 HH.out ?_ HI.out.2 ⟨A, c, vo, HS.out.fr (S := fun k => k = rb) ?_ (fun k hk => by have := HH.out.lb; omega), HR1.out.fr (S := fun k => k = w.heap.size) ?_ (fun e => hnq e.symm)⟩ HRok.out (fun e => HWt.out (HH.out.wt e))
      · (repeat' first | with_reducible exact HFr.out | (with_reducible refine Fr.setEq ?_ _) | (with_reducible refine Fr.setNew ?_ _) | with_reducible refine Fr.alloc ?_ _ | with_reducible refine Fr.drewN ?_ _ | with_reducible refine Fr.drew ?_)
      · (repeat' first | with_reducible exact HFr.out | (with_reducible refine Fr.setEq ?_ _) | (with_reducible refine Fr.setNew ?_ _) | with_reducible refine Fr.alloc ?_ _ | with_reducible refine Fr.drewN ?_ _ | with_reducible refine Fr.drew ?_)
      · (repeat' first | with_reducible exact Fr.refl (fun k => k = _) _ | (with_reducible refine Fr.setAt ?_ _) | with_reducible refine Fr.alloc ?_ _ | with_reducible refine Fr.drewN ?_ _ | with_reducible refine Fr.drew ?_)
    · refine Fr.weak (S := fun k => k = rb) ?_ (fun k h => .inr (.inl h))
      (repeat' first | with_reducible exact HFr.out | (with_reducible refine Fr.setEq ?_ _) | (with_reducible refine Fr.setNew ?_ _) | with_reducible refine Fr.alloc ?_ _ | with_reducible refine Fr.drewN ?_ _ | with_reducible refine Fr.drew ?_)
    · rw [HD1.out H1.out]
      intro e
      exact absurd (H1.out.symm.trans e) (by decide)
  · have h1' : (o.kind == 1) = false := by simpa using h1
    by_cases h7 : o.kind = 7
    · have H7 := Lib.hid h7
      have H1 := Lib.hid h1
      rw [h7]
      clear h7 h1 h1'
      go_wp2_with fail
      have hw7 := HR7.out H7.out
      have HW7 := Lib.hid hw7
      obtain ⟨W1, hW1⟩ : ∃ W1, W1 = (last8 w1 b 7 o.num).alloc (.cells #[.int .i64 7, .int .i64 o.num, .string o.text, .int .i64 o.vk, .int .i64 o.vn, .string ⟨#[]⟩, .slice none 0 0, .slice none 0 0] 152) := ⟨_, rfl⟩
      unfold last8 at hW1
      have hfr0 : Fr (fun k => k = b ∨ k = rb) w w1 := HF1.out.weak (fun _ h => .inr h)
      have HFr := Lib.hid hfr0
      have HDM := Lib.hid (show DM w w1 b rb d.l.length A c r' o d.nm (.slice A2 n2 c2) (.slice A3 n3 c3) W1 by
        rw [hW1]
        refine ⟨fun q u hq => ?_, fun q => ?_, fun q u hq => ?_, fun q => ?_, fun q u hq => ?_, HR1.out.fr (S := fun k => k = b) ?_ (fun e => by omega), ?_, by simp⟩
        · rw [H7.out] at hq
          rcases q with _ | _ | _ | _ | _ | _ | _ | _ | _ | _ | _ | _ | q
          all_goals (simp at hq)
          all_goals (subst hq; simp [go_sem, hb1, hq1, hbq, hqb, x0, x1, x2, x3, x4, x5, x6, x7, x8, x9, x10, x11])
        · simp [go_sem, hb1, hq1, hbq, hqb, xf]
        · rcases q with _ | _ | _ | _ | _ | _ | _ | _ | q
          all_goals (simp at hq)
          all_goals (subst hq; simp [go_sem, hb1, hq1, hbq, hqb, y0, y1, y2, y3, y4, y5, y6, y7])
        · simp [go_sem, hb1, hq1, hbq, hqb, yf]
        · unfold outC at hq
          rw [H7.out] at hq
          rcases q with _ | _ | _ | _ | _ | _ | _ | _ | q
          all_goals (simp at hq)
          all_goals (subst hq; simp [go_sem])
        · (repeat' first | with_reducible exact Fr.refl (fun k => k = _) _ | (with_reducible refine Fr.setAt ?_ _) | with_reducible refine Fr.alloc ?_ _ | with_reducible refine Fr.drewN ?_ _ | with_reducible refine Fr.drew ?_)
        · (repeat' first | with_reducible exact HFr.out | (with_reducible refine Fr.setIn ?_ (by first | exact Or.inl rfl | exact Or.inr rfl) _) | (with_reducible refine Fr.setNew ?_ _) | with_reducible refine Fr.alloc ?_ _ | with_reducible refine Fr.drewN ?_ _ | with_reducible refine Fr.drew ?_))
      rw [← hW1]
      clear x0 x1 x2 x3 x4 x5 x6 x7 x8 x9 x10 x11 xf y0 y1 y2 y3 y4 y5 y6 y7 yf hfr0
      have HW1 := Lib.hid hW1
      have hz2 : b < W1.heap.size := Nat.lt_of_lt_of_le hlt HDM.out.fr.size
      have hz3 : w.heap.size < W1.heap.size := Nat.lt_trans hq1 HDM.out.lt
      have a0 : W1.cell? ⟨b, 0, none⟩ = some (.iface 236 (.pointer (some ⟨rb, 0, none⟩))) := HDM.out.cb 0 _ rfl
      have k0 : W1.cell? ⟨w1.heap.size, 0, none⟩ = some (.int .i64 7) := by have := HDM.out.co 0 _ rfl; rw [H7.out] at this; exact this
      clear hW1 hw7
      refine (top_any rb d.l.length c A r' W1 HDM.out.run).mono ?_
      rintro e w2 ht
      rcases ht with ⟨h, _, _⟩ | ⟨_, rfl, nq, rfl⟩
      · rw [HW7.out] at h; cases h
      have hb2 : Below W1.heap.size W1 ((W1.drewN nq).alloc (.cells (topC r').toArray 41)) := (show Below W1.heap.size W1 (W1.drewN nq) from ⟨rfl, rfl, rfl, Nat.le_refl _, fun _ _ => rfl⟩).alloc (Nat.le_refl _) _
      have HDM2 := Lib.hid (HDM.out.below hb2 hz2 hz3)
      have hrd : RdV ((W1.drewN nq).alloc (.cells (topC r').toArray 41)) (fun _ => True) (some ⟨W1.heap.size, 0, none⟩) 2 (topV r') := fun _ => ⟨W1.heap.size, 0, rfl, by simp, trivial, fun i => if i = 0 then [.int .i64 2, .int .i64 r'.pos, .string ⟨#[]⟩, .slice none 0 0] else [.int .i64 6, .int .i64 r'.kid, .string ⟨#[]⟩, .slice none 0 0], fun i hi => by
        have hcell := fun j u hj => (by have := cell_newL (W1.drewN nq) (topC r') 41 W1.heap.size rfl j u hj; rw [Addr.add_lit, Nat.zero_add] at this; exact this : ((W1.drewN nq).alloc (.cells (topC r').toArray 41)).cell? ⟨W1.heap.size, j, none⟩ = some u)
        match i, hi with
        | 0, _ => exact ⟨leaf_V _ _ _ _, fun j u hj => by
            rw [show 0 + 0 * 4 + j = j by omega]
            refine hcell j u ?_
            simp only [if_true] at hj
            match j, hj with
            | 0, hj => exact hj
            | 1, hj => exact hj
            | 2, hj => exact hj
            | 3, hj => exact hj
            | k + 4, hj => simp at hj⟩
        | 1, _ => exact ⟨leaf_V _ _ _ _, fun j u hj => by
            rw [show 0 + 1 * 4 + j = j + 4 by omega]
            refine hcell (j + 4) u ?_
            match j, hj with
            | 0, hj => exact hj
            | 1, hj => exact hj
            | 2, hj => exact hj
            | 3, hj => exact hj
            | k + 4, hj => simp at hj⟩⟩
      generalize (W1.drewN nq).alloc (.cells (topC r').toArray 41) = W2 at *
      have HRD := Lib.hid hrd
      have hz4 : b < W2.heap.size := Nat.lt_of_lt_of_le hz2 hb2.size
      have hz5 : w.heap.size < W2.heap.size := Nat.lt_of_lt_of_le hz3 hb2.size
      have k0 : W2.cell? ⟨w1.heap.size, 0, none⟩ = some (.int .i64 7) := by have := HDM2.out.co 0 _ rfl; rw [H7.out] at this; exact this
      clear hrd a0 hb2
      go_wp2_with fail
      refine (values_any 2 2 _ (topV r') _ W2 (by omega) HRD.out (fun i _ => by unfold topV; split <;> simp [vLeaf, VT.many, sumTo])).mono ?_
      rintro e w3 ⟨v, C, rfl, ho, hl, hv, hb3⟩
      obtain ⟨sA, sc, rfl, hs1, hs2, hs3⟩ := each_rdv ho hl hv
      have HDM3 := Lib.hid (HDM2.out.below hb3 hz4 hz5)
      have HRD3 := Lib.hid hs3
      have hw3 := hb3.size
      have a2 := HDM3.out.cb 2 _ rfl
      have a3 := HDM3.out.cb 3 _ rfl
      have af := HDM3.out.fb
      have b0 := HDM3.out.cy 0 _ rfl
      have b1 := HDM3.out.cy 1 _ rfl
      have b2 := HDM3.out.cy 2 _ rfl
      have b3 := HDM3.out.cy 3 _ rfl
      have b4 := HDM3.out.cy 4 _ rfl
      have b5 := HDM3.out.cy 5 _ rfl
      have b6 := HDM3.out.cy 6 _ rfl
      have b7 := HDM3.out.cy 7 _ rfl
      have bf := HDM3.out.fy
      have o0 : w3.cell? ⟨w1.heap.size, 0, none⟩ = some (.int .i64 7) := by have := HDM3.out.co 0 _ rfl; rw [H7.out] at this; exact this
      have o1 := HDM3.out.co 1 _ rfl
      have o2 := HDM3.out.co 2 _ rfl
      have o3 := HDM3.out.co 3 _ rfl
      have o4 := HDM3.out.co 4 _ rfl
      have o5 := HDM3.out.co 5 _ rfl
      have o6 := HDM3.out.co 6 _ rfl
      have o7 := HDM3.out.co 7 _ rfl
      have hn1 : w1.heap.size ≠ b := by omega
      have hn2 : w1.heap.size ≠ w.heap.size := by omega
      have hn3 : b ≠ w1.heap.size := by omega
      have hn4 : w.heap.size ≠ w1.heap.size := by omega
      clear ho hl hv hb3 hs3 k0
      go_wp2_with fail
      refine bodyPost_ret (outC_results (o := o) (q := w.heap.size) (fun j u hj => ?_) rfl rfl) rfl ?_
      · unfold outC at hj
        rw [H7.out] at hj
        rcases j with _ | _ | _ | _ | _ | _ | _ | _ | j
        all_goals (simp at hj)
        all_goals (subst hj; simp [go_sem, hbq, hqb, hn1, hn2, hn3, hn4, b0, b1, b2, b3, b4, b5, b6, b7])
      rw [HD2.out H1.out]
      have HFr := Lib.hid HDM3.out.fr
      have y0 := HDM3.out.cb 0 _ rfl
      have y1 := HDM3.out.cb 1 _ rfl
      have y4 := HDM3.out.cb 4 _ rfl
      have y5 := HDM3.out.cb 5 _ rfl
      have y6 := HDM3.out.cb 6 _ rfl
      have y7 := HDM3.out.cb 7 _ rfl
      have y8 := HDM3.out.cb 8 _ rfl
      have y9 := HDM3.out.cb 9 _ rfl
      have y10 := HDM3.out.cb 10 _ rfl
      have y11 := HDM3.out.cb 11 _ rfl
      refine ⟨rfl, none, .inr rfl, dia_mk HH.out (HS.out.fr (S := fun k => k = b ∨ k = rb) ?_ (fun k hk => by have := HH.out.lb; omega)) (HDM3.out.run.fr (S := fun k => k = b ∨ k = w.heap.size) ?_ (fun e => by omega)) (sA := sA) (sn := 2) (sc := sc) (iA := none) (n := 0) (ic := 0) (xs := []) (fun q u hq => ?_) (fun q => ?_) (fun e => ⟨rfl, hs1, hs2, RdV.frame (S := fun k => W2.heap.size ≤ k) HRD3.out (by simp) (fun k hk hlt' => ⟨fun hx => by have := HX.out k hx; omega, ?_⟩)⟩) (World.ownsRow_nil _ _ _ _) (Nat.zero_le _) rfl (fun e => ⟨rfl, rfl, rfl⟩) (fun k hk => by cases hk) (fun e => HW7.out) HRok.out, ?_, fun e => e⟩
      · (repeat' first | with_reducible exact HFr.out | (with_reducible refine Fr.setIn ?_ (by first | exact Or.inl rfl | exact Or.inr rfl) _) | (with_reducible refine Fr.setNew ?_ _) | with_reducible refine Fr.alloc ?_ _ | with_reducible refine Fr.drewN ?_ _ | with_reducible refine Fr.drew ?_)
      · (repeat' first | with_reducible exact Fr.refl _ _ | (with_reducible refine Fr.setIn ?_ (by first | exact Or.inl rfl | exact Or.inr rfl) _) | with_reducible refine Fr.alloc ?_ _ | with_reducible refine Fr.drewN ?_ _ | with_reducible refine Fr.drew ?_)
      · rcases q with _ | _ | _ | _ | _ | _ | _ | _ | _ | _ | _ | _ | q
        all_goals (simp at hq)
        all_goals (subst hq; simp [go_sem, hbq, hqb, hn1, hn2, hn3, hn4, a2, a3, y0, y1, y4, y5, y6, y7, y8, y9, y10, y11])
      · simp [go_sem, hbq, hqb, hn1, hn2, hn3, hn4, af]
      · have hk' : W2.heap.size ≤ k := hk
        iterate 10 (refine blk_setN ?_ (by omega))
        rfl
      · refine Fr.weak (S := fun k => k = b ∨ k = rb) ?_ (fun k h => by rcases h with h | h; exact .inl h; exact .inr (.inl h))
        (repeat' first | with_reducible exact HFr.out | (with_reducible refine Fr.setIn ?_ (by first | exact Or.inl rfl | exact Or.inr rfl) _) | (with_reducible refine Fr.setNew ?_ _) | with_reducible refine Fr.alloc ?_ _ | with_reducible refine Fr.drewN ?_ _ | with_reducible refine Fr.drew ?_)
    · have h7' : (o.kind == 7) = false := by simpa using h7
      have H7 := Lib.hid h7
      have H1 := Lib.hid h1
      clear h1 h7
      go_wp2_with fail
      refine bodyPost_ret (outC_results (o := o) (q := w.heap.size) (fun j u hj => ?_) rfl rfl) rfl ?_
      · unfold outC at hj
        rcases j with _ | _ | _ | _ | _ | _ | _ | _ | j
        all_goals (simp at hj)
        all_goals (subst hj; simp [go_sem, hq1, hbq, hqb, y0, y1, y2, y3, y4, y5, y6, y7])
      rw [HD2.out H1.out]
      have hfW : Fr (fun k => k = b ∨ k = rb) w w1 := HF1.out.weak (fun _ h => .inr h)
      have HFr := Lib.hid hfW
      obtain ⟨f3, f4, f5, f6⟩ := HC3.out
      refine ⟨rfl, ib, .inl rfl, dia_mk HH.out (HS.out.fr (S := fun k => k = b ∨ k = rb) ?_ (fun k hk => by have := HH.out.lb; omega)) (HR1.out.fr (S := fun k => k = b ∨ k = w.heap.size) ?_ (fun e => by omega)) (sA := A2) (sn := n2) (sc := c2) (fun q u hq => ?_) (fun q => ?_) (fun e => absurd e H7.out) (Fr.row (S := fun k => k = b ∨ k = rb) ?_ f3 (fun k hk' hk => ?_)) f4 f5 (fun e => absurd e H7.out) HH.out.ni (fun e => absurd e H7.out) HRok.out, ?_, fun e => absurd e H7.out⟩
      · (repeat' first | with_reducible exact HFr.out | (with_reducible refine Fr.setIn ?_ (by first | exact Or.inl rfl | exact Or.inr rfl) _) | (with_reducible refine Fr.setNew ?_ _) | with_reducible refine Fr.alloc ?_ _ | with_reducible refine Fr.drewN ?_ _ | with_reducible refine Fr.drew ?_)
      · (repeat' first | with_reducible exact Fr.refl _ _ | (with_reducible refine Fr.setIn ?_ (by first | exact Or.inl rfl | exact Or.inr rfl) _) | with_reducible refine Fr.alloc ?_ _ | with_reducible refine Fr.drewN ?_ _ | with_reducible refine Fr.drew ?_)
      · rcases q with _ | _ | _ | _ | _ | _ | _ | _ | _ | _ | _ | _ | q
        all_goals (simp at hq)
        all_goals (subst hq; simp [go_sem, hb1, hq1, hbq, hqb, x0, x1, x2, x3, x4, x5, x6, x7, x8, x9, x10, x11])
      · simp [go_sem, hb1, hq1, hbq, hqb, xf]
      · (repeat' first | with_reducible exact HFr.out | (with_reducible refine Fr.setIn ?_ (by first | exact Or.inl rfl | exact Or.inr rfl) _) | (with_reducible refine Fr.setNew ?_ _) | with_reducible refine Fr.alloc ?_ _ | with_reducible refine Fr.drewN ?_ _ | with_reducible refine Fr.drew ?_)
      · rcases hk with hk | hk
        · exact (HH.out.ni k (f5.symm.trans hk')).1 hk
        · exact (HH.out.ni k (f5.symm.trans hk')).2 hk
      · refine Fr.weak (S := fun k => k = b ∨ k = rb) ?_ (fun k h => by rcases h with h | h; exact .inl h; exact .inr (.inl h))
        (repeat' first | with_reducible exact HFr.out | (with_reducible refine Fr.setIn ?_ (by first | exact Or.inl rfl | exact Or.inr rfl) _) | (with_reducible refine Fr.setNew ?_ _) | with_reducible refine Fr.alloc ?_ _ | with_reducible refine Fr.drewN ?_ _ | with_reducible refine Fr.drew ?_)
end Go.Proofs.YtjjfglbcikaicaaGreat
