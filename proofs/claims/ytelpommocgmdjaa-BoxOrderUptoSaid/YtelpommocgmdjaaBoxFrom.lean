/- Contract of box.From. -/
import Derived.Test.YtelpommocgmdjaaBoxPut
import Derived.Test.YtelpommocgmdjaaRow
namespace Go.Proofs.Ytelpommocgmdjaa
open Go.RowKit
set_option linter.unusedVariables false
/-- the first q letters, as a list; those of one sender -/
def lettersTo (arg : Nat → LT) (q : Nat) : List LT := (List.range q).map arg
def fromL (arg : Nat → LT) (who : Int) (q : Nat) : List LT := (lettersTo arg q).filter (fun l => l.frm == who)
theorem fromL_succ (arg : Nat → LT) (who : Int) (q : Nat) : fromL arg who (q + 1) = fromL arg who q ++ (if (arg q).frm == who then [arg q] else []) := by
  unfold fromL lettersTo
  rw [List.range_succ, List.map_append, List.filter_append]
  congr 1
  by_cases h : (arg q).frm == who <;> simp [h]
theorem fromL_len (arg : Nat → LT) (who : Int) (q : Nat) : (fromL arg who q).length ≤ q := by
  unfold fromL lettersTo
  have := List.length_filter_le (fun l : LT => l.frm == who) ((List.range q).map arg)
  simpa using this
def noLetter : LT := ⟨0, 0, 0, 0, ⟨#[]⟩, .none⟩
/-- a row of the call's own that holds the letters L; what they lead to lies in S, and not in the row -/
def OwnL (w : World) (base : Nat) (S : Nat → Prop) (v : Value) (L : List LT) : Prop :=
  ∃ C : Nat → List Value, w.ownsRow base 45 9 v L.length (flatC C L.length) ∧ (∀ i, (C i).length = 9) ∧ ∀ i, i < L.length → (L.getD i noLetter).isL w (fun b => S b ∧ some b ≠ v.ownBlock) (C i)
theorem OwnL.nil (w : World) (base : Nat) (S : Nat → Prop) : OwnL w base S (.slice none 0 0) [] := ⟨fun _ => List.replicate 9 undef, World.ownsRow_nil _ _ _ _, fun _ => by simp, fun i hi => by simp at hi⟩
/-- elsewhere something has changed -/
theorem OwnL.frame {w w' : World} {base : Nat} {S : Nat → Prop} {v : Value} {L : List LT} (h : OwnL w base S v L) (hsz : w.heap.size ≤ w'.heap.size) (hown : ∀ xs, w.ownsRow base 45 9 v L.length xs → w'.ownsRow base 45 9 v L.length xs)
    (hS : ∀ b, S b → b < w.heap.size → some b ≠ v.ownBlock → w'.heap[b]? = w.heap[b]?) : OwnL w' base S v L := by
  obtain ⟨C, h1, h2, h3⟩ := h
  exact ⟨C, hown _ h1, h2, fun i hi => isL_frame hsz (fun b hs hlt => ⟨hs, hS b hs.1 hlt hs.2⟩) (h3 i hi)⟩
theorem OwnL.below {w w' : World} {base : Nat} {S : Nat → Prop} {v : Value} {L : List LT} (h : OwnL w base S v L) (hb : Below w.heap.size w w') : OwnL w' base S v L :=
  h.frame hb.size (fun _ h => own_below h hb) (fun b _ hlt _ => hb.block b hlt)
/-- one letter more -/
theorem OwnL.snoc {w w' : World} {base : Nat} {S : Nat → Prop} {v v' : Value} {L : List LT} {x : LT} {cs : List Value} {C : Nat → List Value} (h2 : ∀ i, (C i).length = 9) (h3 : ∀ i, i < L.length → (L.getD i noLetter).isL w (fun b => S b ∧ some b ≠ v.ownBlock) (C i))
    (hx : x.isL w (fun b => S b ∧ some b ≠ v.ownBlock) cs) (hg : w.grownBy w' v.ownBlock) (hat : v'.ownBlock = v.ownBlock ∨ ∃ h, v'.ownBlock = some h ∧ w.heap.size ≤ h) (hown : w'.ownsRow base 45 9 v' (L.length + 1) (flatC C L.length ++ cs)) : OwnL w' base S v' (L ++ [x]) := by
  have hS : ∀ b, b < w.heap.size → some b ≠ v.ownBlock → w'.heap[b]? = w.heap[b]? ∧ some b ≠ v'.ownBlock := fun b hlt hne => by
    refine ⟨hg.block b hlt hne, ?_⟩
    rcases hat with h | ⟨h, e, hle⟩
    · rw [h]; exact hne
    · rw [e]; intro e; injection e with e; omega
  refine ⟨updC C L.length cs, ?_, fun i => ?_, fun i hi => ?_⟩
  · rw [List.length_append, List.length_singleton, ← flatC_snoc]
    exact hown
  · unfold updC; split
    · exact isL_len hx
    · exact h2 i
  · have hfr : ∀ b, (S b ∧ some b ≠ v.ownBlock) → b < w.heap.size → (S b ∧ some b ≠ v'.ownBlock) ∧ w'.heap[b]? = w.heap[b]? := fun b hs hlt => ⟨⟨hs.1, (hS b hlt hs.2).2⟩, (hS b hlt hs.2).1⟩
    rw [List.length_append, List.length_singleton] at hi
    by_cases e : i = L.length
    · subst e
      rw [show (L ++ [x]).getD L.length noLetter = x by simp]
      simp only [updC, if_true]
      exact isL_frame hg.size hfr hx
    · rw [show (L ++ [x]).getD i noLetter = L.getD i noLetter by simp [List.getElem?_append_left (show i < L.length by omega)]]
      simp only [updC, e, if_false]
      exact isL_frame hg.size hfr (h3 i (by omega))
theorem isL_mono {w : World} {S S' : Nat → Prop} {l : LT} {cs : List Value} (h : l.isL w S cs) (hS : ∀ b, b < w.heap.size → S b → S' b) : l.isL w S' cs := isL_frame (Nat.le_refl _) (fun b hs hlt => ⟨hS b hlt hs, rfl⟩) h
def FromPost (L : List LT) (w : World) (e : Ending) (w' : World) : Prop := ∃ v, e = .returned (.tuple #[v, .int .i64 0]) ∧ OwnL w' w.heap.size (fun b => w.heap.size ≤ b) v L ∧ Below w.heap.size w w'
def FromErr (w : World) (e : Ending) (w' : World) : Prop := ∃ x : Int, x ≠ 0 ∧ e = .returned (.tuple #[.slice none 0 0, .int .i64 x]) ∧ Below w.heap.size w w'
set_option maxRecDepth 100000 in
set_option maxHeartbeats 1000000 in
theorem from_bad (n c : Nat) (A : Option Addr) (at_ who : Int) (arg : Nat → LT) (S : Nat → Prop) (w : World) (hnc : n ≤ c) (hcm : c ≤ 9223372036854775807) (hR : RdL w S A n arg) (ok : ¬ OkBox n at_ arg) :
    Calls Try.prog 26 #[.agg #[.slice A n c, .int .i64 at_], .int .i64 who] w (FromErr w) := by
  have H := Lib.hid (fun (o : Obj) => boxCheck_bad n c A at_ arg S (w.alloc o) (by omega) (hR.below ((Below.refl _ _).alloc (Nat.le_refl _) o)) ok)
  clear hR ok
  go_enter Try.func26, Try.ntmps26
  go_wp2_with fail
  refine (H.out _).mono ?_
  rintro e w1 ⟨x, rfl, hx, hb⟩
  have hx0 : (x != 0) = true := by simpa using hx
  go_wp2_with fail
  go_ret2
  exact ⟨x, hx, rfl, ((Below.refl _ _).alloc (Nat.le_refl _) _).trans (hb.mono (by simp))⟩
set_option maxRecDepth 100000 in
set_option maxHeartbeats 2000000 in
theorem from_ok (n c : Nat) (A : Option Addr) (at_ who : Int) (arg : Nat → LT) (S : Nat → Prop) (w : World) (hnc : n ≤ c) (hcm : c ≤ 9223372036854775807) (hR : RdL w S A n arg) (ok : OkBox n at_ arg) (hm : ∀ i, i < n → (arg i).val.many ≤ 4194304) :
    Calls Try.prog 26 #[.agg #[.slice A n c, .int .i64 at_], .int .i64 who] w (FromPost (fromL arg who n) w) := by
  obtain ⟨i0, hi, jz0, jz1, jz2⟩ := info_parts infoL
  have h60 := ok.1
  have H := Lib.hid (fun (o : Obj) => boxCheck_ok n c A at_ arg S (w.alloc o) (by omega) (hR.below ((Below.refl _ _).alloc (Nat.le_refl _) o)) ok)
  have HV := Lib.hid hR
  have HM := Lib.hid hm
  clear hR ok hm
  go_enter Try.func26, Try.ntmps26
  go_wp2_with fail
  refine (H.out _).mono ?_
  rintro e w0 ⟨rfl, hb⟩
  have a0 : w0.cell? ⟨w.heap.size, 0, none⟩ = some (.slice A n c) := (hb.cell (p := ⟨_, _, none⟩) (by simp)).trans (by simp [go_sem])
  have hB0 : Below w.heap.size w w0 := ((Below.refl _ _).alloc (Nat.le_refl _) _).trans (hb.mono (by simp))
  have HB0 := Lib.hid hB0
  have hz0 := hB0.size
  clear hb hB0
  go_wp2_with fail
  clear a0
  go_loopw [7, 9, 18] (fun o _ i wr => ∃ (q : Nat) (v : Value), q ≤ n ∧ i = .int .i64 q ∧ v = o ∧ OwnL wr w.heap.size (fun b => w.heap.size ≤ b) v (fromL arg who q) ∧ Below w.heap.size w wr) (fun _ _ i _ => n - (intOf i).toNat)
  case atStart => exact ⟨0, _, Nat.zero_le _, rfl, rfl, OwnL.nil _ _ _, HB0.out⟩
  case round =>
    obtain ⟨q, v, hq, rfl, rfl, hown, hB⟩ := hrel
    have HO := Lib.hid hown
    by_cases hlt : q < n
    · obtain ⟨b, off, rfl, hb, hSb, D, hD⟩ := HV.out (by omega)
      obtain ⟨hDq, hcell⟩ := hD q hlt
      have hDr := isL_frame (w' := wr) (S' := S) hB.size (fun b hs hlt => ⟨hs, hB.block b hlt⟩) hDq
      have hDr' := hDr
      obtain ⟨k', m', s', A', n', c', hCq, _⟩ := hDr'
      have hstep := fromL_succ arg who q
      have hfl := fromL_len arg who q
      obtain ⟨lq, hlq⟩ : ∃ x, arg q = x := ⟨_, rfl⟩
      have HMq := Lib.hid (HM.out q hlt)
      rw [hlq] at hCq hDr HMq hstep
      have HST := Lib.hid hstep
      obtain ⟨k, f, t, num, s, val⟩ := lq
      dsimp only at hCq HMq HST
      rw [hCq] at hcell hDr
      have c0 : wr.cell? ⟨b, off + q * 9, none⟩ = some (.int .i64 k) := (hB.cell (p := ⟨b, _, none⟩) hb).trans (hcell 0 _ rfl)
      have c1 : wr.cell? ⟨b, off + q * 9 + 1, none⟩ = some (.int .i64 f) := (hB.cell (p := ⟨b, _, none⟩) hb).trans (hcell 1 _ rfl)
      have c2 : wr.cell? ⟨b, off + q * 9 + 2, none⟩ = some (.int .i64 t) := (hB.cell (p := ⟨b, _, none⟩) hb).trans (hcell 2 _ rfl)
      have c3 : wr.cell? ⟨b, off + q * 9 + 3, none⟩ = some (.int .i64 num) := (hB.cell (p := ⟨b, _, none⟩) hb).trans (hcell 3 _ rfl)
      have c4 : wr.cell? ⟨b, off + q * 9 + 4, none⟩ = some (.string s) := (hB.cell (p := ⟨b, _, none⟩) hb).trans (hcell 4 _ rfl)
      have c5 : wr.cell? ⟨b, off + q * 9 + 5, none⟩ = some (.int .i64 k') := (hB.cell (p := ⟨b, _, none⟩) hb).trans (hcell 5 _ rfl)
      have c6 : wr.cell? ⟨b, off + q * 9 + 6, none⟩ = some (.int .i64 m') := (hB.cell (p := ⟨b, _, none⟩) hb).trans (hcell 6 _ rfl)
      have c7 : wr.cell? ⟨b, off + q * 9 + 7, none⟩ = some (.string s') := (hB.cell (p := ⟨b, _, none⟩) hb).trans (hcell 7 _ rfl)
      have c8 : wr.cell? ⟨b, off + q * 9 + 8, none⟩ = some (.slice A' n' c') := (hB.cell (p := ⟨b, _, none⟩) hb).trans (hcell 8 _ rfl)
      have hBs := hB.size
      have HDR := Lib.hid hDr
      have HB := Lib.hid hB
      clear hown hDr hD hDq hcell hCq hlq hstep hB
      obtain ⟨Cx, hOx, hCl, hCv⟩ := HO.out
      obtain ⟨Ao, co, hvv, hnco, hcmo, _⟩ := own_any hOx
      subst hvv
      clear hOx hCl hCv
      by_cases hf : f = who
      · have e1 : (f == who) = true := by simpa using hf
        clear hf
        go_wp2_with fail
        refine (lcopy_any _ _ S _ (isL_below HDR.out ((Below.refl _ _).alloc (Nat.le_refl _) _)) HMq.out).mono ?_
        rintro e w1 ⟨cs', rfl, hV1, hb1⟩
        have hV1' := hV1
        obtain ⟨k3, m3, s3, A3, n3, c3', rfl, _⟩ := hV1'
        dsimp only at hV1 ⊢
        have HO1 := Lib.hid ((HO.out.below ((Below.refl _ _).alloc (Nat.le_refl _) (.cells #[.int .i64 k, .int .i64 f, .int .i64 t, .int .i64 num, .string s, .int .i64 k', .int .i64 m', .string s', .slice A' n' c'] 45))).below hb1)
        have HV1 := Lib.hid hV1
        have HB1 := Lib.hid (((Below.refl wr.heap.size wr).alloc (Nat.le_refl _) _).trans (hb1.mono (by simp)))
        have hz1 : wr.heap.size + 1 ≤ w1.heap.size := by have := hb1.size; simp at this; omega
        have hblk := Lib.hid (fun k hk => by obtain ⟨C, h1, _⟩ := HO.out; exact h1.lt k hk)
        clear hV1 hb1 c0 c1 c2 c3 c4 c5 c6 c7 c8
        obtain ⟨C1, hO1, hC1, hC1v⟩ := HO1.out
        have HOW := Lib.hid hO1
        have HC1 := Lib.hid hC1
        have HC1v := Lib.hid hC1v
        clear hO1 hC1 hC1v
        go_wp2_with (at_builtin; refine wpList_append_own_at _ rfl _ _ 41 rfl w.heap.size 45 i0 _ 9 104 Try.underlying41 hi jz0 jz1 jz2 rfl (by omega) (.slice Ao (fromL arg who q).length co) (fromL arg who q).length (flatC C1 (fromL arg who q).length) rfl (HOW.out.alloc _) ⟨w1.heap.size, 0, none⟩ 1 1 [.int .i64 k, .int .i64 f, .int .i64 t, .int .i64 num, .string s, .int .i64 k3, .int .i64 m3, .string s3, .slice A3 n3 c3'] rfl rfl (cell_nine_new _ _ _ _ _ _ _ _ _ _ _) (isL_one HV1.out) (by unfold maxLen; omega) (by omega) (by simp; omega) ?_; intro v2 w2 hown2 hgrow2 _ hat2; have HO2 := Lib.hid hown2; have HG2 := Lib.hid hgrow2; have HA2 := Lib.hid hat2; clear hown2 hgrow2 hat2)
        have g12 := grown_step (World.grownBy_alloc w1 _ _) HG2.out (.inl rfl)
        have hbl : ∀ k, (Value.slice Ao (fromL arg who q).length co).ownBlock = some k → w.heap.size ≤ k ∧ k < wr.heap.size := hblk.out
        refine ⟨⟨q + 1, v2, by omega, by go_num, rfl, ?_, ?_⟩, by simp [intOf]; omega⟩
        · rw [HST.out, e1]
          refine OwnL.snoc HC1.out HC1v.out (isL_mono HV1.out (fun b hlt hb' => ?_)) g12 ?_ HO2.out
          · have hb2 : wr.heap.size + 1 ≤ b := by simpa using hb'
            refine ⟨by omega, fun e => ?_⟩
            have := (hbl b e.symm).2
            omega
          · rcases HA2.out with h | h
            · exact .inl h
            · exact .inr ⟨_, h, by simp⟩
        · exact below_grown (HB.out.trans (HB1.out.mono hBs)) (by omega) g12 (fun k hk => (hbl k hk).1)
      · have e1 : (f == who) = false := by simpa using hf
        clear hf
        go_wp2_with fail
        go_roundw
        case rel =>
          refine ⟨q + 1, _, by omega, by go_num, rfl, ?_, HB.out.alloc hBs _⟩
          rw [HST.out, e1]
          simpa using HO.out.below ((Below.refl _ _).alloc (Nat.le_refl _) _)
        case measure => simp [intOf]; omega
    · obtain rfl : q = n := by omega
      go_wp2_with fail
      go_ret2
      exact ⟨_, rfl, HO.out, hB⟩
end Go.Proofs.Ytelpommocgmdjaa
