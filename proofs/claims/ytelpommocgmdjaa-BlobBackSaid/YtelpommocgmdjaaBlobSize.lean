/- Contracts of package blob: Size; slices.Equal over stores. -/
import Derived.Test.YtelpommocgmdjaaBlobNew
namespace Go.Proofs.Ytelpommocgmdjaa
open Go.RowKit

def usedN (M : Nat → Int) : Nat → Int
  | 0 => 0
  | n + 1 => if 0 < M n then usedN M n + 1 else usedN M n
def manyN (M : Nat → Int) : Nat → Int
  | 0 => 0
  | n + 1 => if 0 < M n then manyN M n + M n else manyN M n
def bytesN (T : Nat → ByteArray) (M : Nat → Int) : Nat → Int
  | 0 => 0
  | n + 1 => if 0 < M n then bytesN T M n + (T n).size else bytesN T M n
theorem sums_le {T : Nat → ByteArray} {M : Nat → Int} {n : Nat} (ok : OkS T M n) : ∀ k, k ≤ n → 0 ≤ usedN M k ∧ usedN M k ≤ k ∧ 0 ≤ manyN M k ∧ manyN M k ≤ k * 1000 ∧ 0 ≤ bytesN T M k ∧ bytesN T M k ≤ k * 64 := by
  intro k
  induction k with
  | zero => intro _; simp [usedN, manyN, bytesN]
  | succ k ih =>
    intro hk
    have h := ih (by omega)
    have hb := ok_bounds ok (show k < n by omega)
    simp only [usedN, manyN, bytesN]
    split <;> omega
def SizePost (a b d : Int) (w : World) (e : Ending) (w' : World) : Prop := e = .returned (.tuple #[.int .i64 a, .int .i64 b, .int .i64 d, .int .i64 0]) ∧ Below w.heap.size w w'
theorem results_four {fn : Func} {t u v x : Tmp} (h : fn.results = #[.tmp t, .tmp u, .tmp v, .tmp x]) (tmps : Array Value) (P : Program) (w : World) :
    (results fn tmps).run P w = .ok (.tuple #[tmps.getD t undef, tmps.getD u undef, tmps.getD v undef, tmps.getD x undef]) w := by simp [results, h]
set_option maxRecDepth 100000 in
set_option maxHeartbeats 1000000 in
theorem size_ok (A : Option Addr) (n c : Nat) (T : Nat → ByteArray) (M : Nat → Int) (w : World) (hn : n ≤ c) (hc : c ≤ 9223372036854775807) (hR : Rd w 2 (blobC T M) A n) (ok : OkS T M n) :
    Calls Try.prog 30 #[.slice A n c] w (SizePost (usedN M n) (manyN M n) (bytesN T M n) w) := by
  have H := Lib.hid (check_ok A n c T M w hn hc hR ok)
  have HR := Lib.hid hR
  have h60 := ok.1
  have OK := Lib.hid ok
  clear hR ok
  go_enter Try.func30, Try.ntmps30
  go_wp2_with fail
  refine H.out.mono ?_
  rintro e w1 ⟨rfl, hb⟩
  go_wp2_with fail
  go_loopw [7, 8, 9, 11, 19] (fun a b d _ i wr => ∃ k : Nat, k ≤ n ∧ i = .int .i64 k ∧ a = .int .i64 (usedN M k) ∧ b = .int .i64 (manyN M k) ∧ d = .int .i64 (bytesN T M k) ∧ Below w.heap.size w wr) (fun _ _ _ _ i _ => n - (intOf i).toNat)
  case atStart => exact ⟨0, Nat.zero_le _, rfl, rfl, rfl, rfl, hb⟩
  case round =>
    obtain ⟨k, hk, rfl, rfl, rfl, rfl, hB⟩ := hrel
    obtain ⟨s1, s2, s3, s4, s5, s6⟩ := sums_le OK.out k hk
    by_cases hlt : k < n
    · obtain ⟨b, off, rfl, hb0, hcell⟩ := HR.out (by omega)
      have c0 : wr.cell? ⟨b, off + k * 2, none⟩ = some (.string (T k)) := (hB.cell (p := ⟨b, _, none⟩) hb0).trans (hcell k hlt 0 _ rfl)
      have c1 : wr.cell? ⟨b, off + k * 2 + 1, none⟩ = some (.int .i64 (M k)) := (hB.cell (p := ⟨b, _, none⟩) hb0).trans (hcell k hlt 1 _ rfl)
      obtain ⟨b1, b2, b3, _⟩ := ok_bounds OK.out hlt
      have E1 := Lib.hid (show usedN M (k + 1) = if 0 < M k then usedN M k + 1 else usedN M k from rfl)
      have E2 := Lib.hid (show manyN M (k + 1) = if 0 < M k then manyN M k + M k else manyN M k from rfl)
      have E3 := Lib.hid (show bytesN T M (k + 1) = if 0 < M k then bytesN T M k + (T k).size else bytesN T M k from rfl)
      have hBs := hB.size
      generalize usedN M k = u at *
      generalize manyN M k = q at *
      generalize bytesN T M k = r at *
      generalize T k = t at *
      generalize M k = m at *
      clear hcell hb
      by_cases hm : 0 < m
      · have r1 : IntKind.i64.wrap (u + 1) = u + 1 := IntWalk.i64_in _ (by omega)
        have r2 : IntKind.i64.wrap (q + m) = q + m := IntWalk.i64_in _ (by omega)
        have r3 : IntKind.i64.wrap (r + t.size) = r + t.size := IntWalk.i64_in _ (by omega)
        go_wp2_with fail
        go_quiet (fail)
        clear r1 r2 r3
        go_wp2_with fail
        go_roundw
        case rel =>
          refine ⟨k + 1, by omega, by go_num, ?_, ?_, ?_, below_drewN (hB.alloc hBs _) _⟩
          · rw [E1.out, if_pos hm]
          · rw [E2.out, if_pos hm]
          · rw [E3.out, if_pos hm]
        case measure => simp [intOf]; omega
      · go_wp2_with fail
        go_roundw
        case rel =>
          refine ⟨k + 1, by omega, by go_num, ?_, ?_, ?_, (hB.alloc hBs _)⟩
          · rw [E1.out, if_neg hm]
          · rw [E2.out, if_neg hm]
          · rw [E3.out, if_neg hm]
        case measure => simp [intOf]; omega
    · obtain rfl : k = n := by omega
      go_wp2_with fail
      refine bodyPost_ret (results_four rfl _ _ _) rfl ?_
      exact ⟨rfl, hB⟩

/-- entries that are alike -/
def sameB (T T' : Nat → ByteArray) (M M' : Nat → Int) (k : Nat) : Prop := (T k).toList = (T' k).toList ∧ M k = M' k
set_option maxRecDepth 100000 in
set_option maxHeartbeats 1000000 in
theorem equal_yes (A A' : Option Addr) (n c c' : Nat) (T T' : Nat → ByteArray) (M M' : Nat → Int) (w : World) (hn : n ≤ 9223372036854775807) (hR : Rd w 2 (blobC T M) A n) (hR' : Rd w 2 (blobC T' M') A' n) (hs : ∀ k, k < n → sameB T T' M M' k) :
    Calls Try.prog 34 #[.slice A n c, .slice A' n c'] w fun e w' => e = .returned (.bool true) ∧ Below w.heap.size w w' := by
  have HR := Lib.hid hR
  have HR' := Lib.hid hR'
  have HS := Lib.hid hs
  clear hR hR' hs
  go_enter Try.func34, Try.ntmps34
  go_wp2_with fail
  go_loopw [5, 4, 13] (fun _ _ i wr => ∃ k : Nat, k ≤ n ∧ i = .int .i64 k ∧ Below w.heap.size w wr) (fun _ _ i _ => n - (intOf i).toNat)
  case atStart => exact ⟨0, Nat.zero_le _, rfl, Below.refl _ _⟩
  case round =>
    obtain ⟨k, hk, rfl, hB⟩ := hrel
    by_cases hlt : k < n
    · obtain ⟨b, off, rfl, hb0, hcell⟩ := HR.out (by omega)
      obtain ⟨b', off', rfl, hb0', hcell'⟩ := HR'.out (by omega)
      have c0 : wr.cell? ⟨b, off + k * 2, none⟩ = some (.string (T k)) := (hB.cell (p := ⟨b, _, none⟩) hb0).trans (hcell k hlt 0 _ rfl)
      have c1 : wr.cell? ⟨b, off + k * 2 + 1, none⟩ = some (.int .i64 (M k)) := (hB.cell (p := ⟨b, _, none⟩) hb0).trans (hcell k hlt 1 _ rfl)
      have c0' : wr.cell? ⟨b', off' + k * 2, none⟩ = some (.string (T' k)) := (hB.cell (p := ⟨b', _, none⟩) hb0').trans (hcell' k hlt 0 _ rfl)
      have c1' : wr.cell? ⟨b', off' + k * 2 + 1, none⟩ = some (.int .i64 (M' k)) := (hB.cell (p := ⟨b', _, none⟩) hb0').trans (hcell' k hlt 1 _ rfl)
      obtain ⟨e1, e2⟩ := HS.out k hlt
      rw [← e2] at c1'
      generalize T k = t at *
      generalize T' k = t' at *
      generalize M k = m at *
      clear hcell hcell' e2
      have i1 : (0 : Int) ≤ (k : Int) := by omega
      have i2 : (k : Int) < (n : Int) := by omega
      go_wp2_with fail
      go_quiet (fail)
      go_wp2_with fail
      go_roundw
      case rel => exact ⟨k + 1, by omega, by go_num, below_drewN hB _⟩
      case measure => simp [intOf]; omega
    · go_wp2_with fail
      go_ret
      exact ⟨rfl, hB⟩
end Go.Proofs.Ytelpommocgmdjaa
