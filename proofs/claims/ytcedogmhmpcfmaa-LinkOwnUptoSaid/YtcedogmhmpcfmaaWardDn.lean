/- ward.Down whatever is asked (as in XWardLaw, without the closed fact of the laws on supervisors). -/
import Derived.Test.YtcedogmhmpcfmaaWardDown3
namespace Go.Proofs.Ytcedogmhmpcfmaa.Wa
open Go.RowKit Go.ChangeShapes Go.WideShapes
set_option linter.unusedVariables false
def DownAll (W : Wd) (id : Int) (failed : Bool) (now : Int) (w : World) (e : Ending) (w' : World) : Prop :=
  (DownErr w e w' ∧ ¬ ∃ i, DownOk W id now i) ∨ ∃ i, DownOk W id now i ∧ DownPost W i failed now w e w'
theorem ix_ok {W : Wd} {id : Int} (ok : OkW W) {i : Nat} (hi : i < W.n) (he : (W.R i).id = id) : ixOf (idB W.R id) W.n = i := by
  rw [← he]; exact ix_of ok.2.2.2.1 hi
theorem down_any (W : Wd) (A B : Option Addr) (c d : Nat) (id : Int) (failed : Bool) (now : Int) (w : World) (ha : ArgOk W A B c d w) :
    Calls Try.prog 26 #[.agg #[.int .i64 W.how, .int .i64 W.most, .int .i64 W.window, .slice A W.n c, .slice B W.m d], .int .i64 id, .bool failed, .int .i64 now] w (DownAll W id failed now w) := by
  have toErr : ∀ (_ : ¬ ∃ i, DownOk W id now i) (e : Ending) (w' : World), DownErr w e w' → DownAll W id failed now w e w' := fun hn e w' h => .inl ⟨h, hn⟩
  by_cases ok : OkW W
  · rcases ixOf_cases (idB W.R id) W.n with ⟨e, hno⟩ | ⟨i, e, hi, hp, _⟩
    · refine (down_e2 W A B c d id failed now w ha ok e).mono (toErr ?_)
      rintro ⟨i, _, hi, he, _⟩
      have := hno i hi
      simp [idB, he] at this
    · have hid : (W.R i).id = id := by simpa [idB] using hp
      have huniq : ∀ j, DownOk W id now j → j = i := fun j hj => id_inj ok.2.2.2.1 hj.2.1 hi (hj.2.2.1.trans hid.symm)
      by_cases hl : (W.R i).lives = true
      · by_cases h0 : 0 ≤ now
        · by_cases h1 : now ≤ 1099511627776
          · by_cases hlt : 0 < W.m → W.T (W.m - 1) ≤ now
            · have hok : DownOk W id now i := ⟨ok, hi, hid, hl, h0, h1, hlt⟩
              have fin : ∀ (e : Ending) (w' : World), DownPost W i failed now w e w' → DownAll W id failed now w e w' := fun e w' h => .inr ⟨i, hok, h⟩
              by_cases hag : againB W i failed = true
              · by_cases hm : W.most ≤ (keptT W now).length
                · exact (down_gave W A B c d id failed now w ha ok i e hi hl h0 h1 hlt hag hm).mono fin
                · have hm' : ((keptT W now).length : Int) < W.most := by omega
                  have h3 := ok.1.1
                  have h4 := ok.1.2.1
                  have h5 : W.how = 1 ∨ W.how = 2 ∨ W.how = 3 := by omega
                  rcases h5 with h5 | h5 | h5
                  · exact (down_again1 W A B c d id failed now w ha ok i e hi hl h0 h1 hlt hag hm' h5).mono fin
                  · exact (down_again2 W A B c d id failed now w ha ok i e hi hl h0 h1 hlt hag hm' h5).mono fin
                  · exact (down_again3 W A B c d id failed now w ha ok i e hi hl h0 h1 hlt hag hm' h5).mono fin
              · have hag' : againB W i failed = false := by simpa using hag
                by_cases hm : 0 < W.m
                · exact (down_calm1 W A B c d id failed now w ha ok i e hi hl h0 h1 hm (hlt hm) hag').mono fin
                · exact (down_calm0 W A B c d id failed now w ha ok i e hi hl h0 h1 (by omega) hag').mono fin
            · have hlt' : 0 < W.m ∧ now < W.T (W.m - 1) := by
                by_cases hm : 0 < W.m
                · refine ⟨hm, ?_⟩
                  have : ¬ W.T (W.m - 1) ≤ now := fun h => hlt fun _ => h
                  omega
                · exact absurd (fun h => absurd h hm) hlt
              exact (down_e4c W A B c d id failed now w ha ok i e hi hl h0 h1 hlt').mono (toErr fun ⟨j, hj⟩ => hlt hj.2.2.2.2.2.2)
          · exact (down_e4b W A B c d id failed now w ha ok i e hi hl (by omega)).mono (toErr fun ⟨j, hj⟩ => h1 hj.2.2.2.2.2.1)
        · exact (down_e4a W A B c d id failed now w ha ok i e hi hl (by omega)).mono (toErr fun ⟨j, hj⟩ => h0 hj.2.2.2.2.1)
      · exact (down_e3 W A B c d id failed now w ha ok i e hi (by simpa using hl)).mono (toErr fun ⟨j, hj⟩ => by
          have := huniq j hj
          subst this
          exact hl hj.2.2.2.1)
  · exact (down_e1 W A B c d id failed now w ha ok).mono (toErr fun ⟨i, hi⟩ => ok hi.1)
end Go.Proofs.Ytcedogmhmpcfmaa.Wa
