/- roadref3.ObjectWords. -/
import Derived.Test.YtmpeckjemgenbaaObjIs
import Derived.Test.YtmpeckjemgenbaaU64
import Derived.Test.YtmpeckjemgenbaaHeapWords
import Derived.Lib.Strings
import Derived.Lib.IndexBytes
import Derived.Deep.RegionLaw
namespace Go.Proofs.Ytmpeckjemgenbaa
open Go.RowKit
set_option linter.unusedVariables false
/-- n bytes from o on, the last ones first: the value so far -/
def valT (s : Nat → Nat) (o n : Nat) : Nat → Nat
  | 0 => 0
  | i + 1 => 256 * valT s o n i + s (o + (n - 1 - i))
theorem valT_full (s : Nat → Nat) (o : Nat) : ∀ n, ∀ i, i ≤ n → valT s o n i * 256 ^ (n - i) + valB s o (n - i) = valB s o n := by
  intro n i
  induction i with
  | zero => intro _; simp [valT]
  | succ i ih =>
    intro hi
    have h := ih (by omega)
    have e : n - i = (n - (i + 1)) + 1 := by omega
    rw [e, valB, Nat.pow_succ] at h
    rw [valT, show n - 1 - i = n - (i + 1) by omega]
    rw [← h]
    have : (256 * valT s o n i + s (o + (n - (i + 1)))) * 256 ^ (n - (i + 1)) = valT s o n i * (256 ^ (n - (i + 1)) * 256) + s (o + (n - (i + 1))) * 256 ^ (n - (i + 1)) := by
      rw [Nat.add_mul]
      congr 1
      rw [Nat.mul_comm 256, Nat.mul_assoc, Nat.mul_comm 256]
    omega
theorem valT_end (s : Nat → Nat) (o n : Nat) : valT s o n n = valB s o n := by
  have := valT_full s o n n (Nat.le_refl _)
  simpa [valB] using this
theorem valT_le {s : Nat → Nat} (hs : ∀ i, s i < 256) (o n : Nat) : ∀ i, i ≤ 7 → valT s o n i ≤ 72057594037927935 := by
  have h : ∀ i, valT s o n i < 256 ^ i := fun i => by
    induction i with
    | zero => simp [valT]
    | succ i ih =>
      rw [valT, Nat.pow_succ]
      have := hs (o + (n - 1 - i))
      omega
  intro i hi
  have h1 := h i
  have h2 : 256 ^ i ≤ 256 ^ 7 := Nat.pow_le_pow_right (by omega) hi
  have h3 : (256 : Nat) ^ 7 = 72057594037927936 := by decide
  omega
/-- the words of the first k chunks -/
theorem tw_chunk (s : Nat → Nat) (k j : Nat) (h : 8 * j < k) : (tw s k)[j]? = some (valB s (8 * j) (min 8 (k - 8 * j))) := by
  have hl := tw_len s k
  have hj : j < (k + 7) / 8 := by omega
  have h1 := tw_get s k j hj
  rw [List.getD_eq_getElem?_getD] at h1
  rw [List.getElem?_eq_getElem (by rw [hl]; exact hj)] at h1 ⊢
  simpa using h1
theorem tw_take (s : Nat → Nat) (k j : Nat) (h : 8 * j < k) : (tw s k).take (j + 1) = (tw s k).take j ++ [valB s (8 * j) (min 8 (k - 8 * j))] := by
  rw [List.take_add_one, tw_chunk s k j h]
  rfl
set_option maxRecDepth 100000 in
theorem step_append_us {ops : Array Oper} {o : Oper} {a : Act} {w : World} {K : Act → World → Prop} {Q : Exit → Act → World → Prop} {E : Prop} (hgd : o.guard = none) (s x : Operand) (t t' : TypeId)
    (ho : o.op = .call { callee := .builtin .append, args := #[s, x], argTypes := #[t, t'] }) (ht : Try.prog.underlying t = some (.slice 34)) (ht' : Try.prog.underlying t' = some (.slice 34)) (base : Nat) (v : Value) (l : List Nat) (hs : a.eval s = v) (hown : OwnU w base v l)
    (u : Value) (m : List Nat) (hx : a.eval x = u) (hS : Su w u m) (hl : l.length + m.length ≤ 1000000) (hbase : base ≤ w.heap.size)
    (h : ∀ v' w', OwnU w' base v' (l ++ m) → w.grownBy w' v.ownBlock → (v'.ownBlock = v.ownBlock ∨ v'.ownBlock = some w.heap.size) → K (a.put o.dst v') w') :
    if Region.wanted o (yielded ops a.tmps) = true then Oper.wp Try.prog o a w K Q else E := by
  have hw : Region.wanted o (yielded ops a.tmps) = true := by simp [Region.wanted, hgd]
  rw [if_pos hw]
  obtain ⟨v', w', hrun, h2, h3, h4⟩ := run_append_us w t o.type ht base v l hown u m hS hl hbase
  obtain ⟨A0, c0, rfl, _⟩ := own_any hown
  unfold Oper.wp execOp
  simp only [ho, resolve, invoke, builtin, Sem.run_bind, Sem.run_pure, Result.andThen_ok, List.map_toArray, List.map_cons, List.map_nil, hs, hx, append_types t t' o.type _ _ ht ht' A0 _ c0 u w, hrun]
  exact h v' w' h2 h3 h4
def strSize : Value → Nat
  | .string s => s.size
  | _ => 0
def OWPost (L : List Nat) (w : World) (e : Ending) (w' : World) : Prop := ∃ A c, e = .returned (.slice A L.length c) ∧ OwnU w' w.heap.size (.slice A L.length c) L ∧ Below w.heap.size w w'
set_option maxRecDepth 100000 in
set_option maxHeartbeats 8000000 in
theorem objWords_any (o : Ob) (at_ : Int) (pA : Option Addr) (pc : Nat) (w : World) (hv : okOb o = true) (hP : Su w (.slice pA o.parts.length pc) o.parts) :
    Calls Try.prog 54 #[.agg #[.int .i64 at_, .int .i64 o.kind, .int .i64 o.num, .string o.text, .slice pA o.parts.length pc]] w (OWPost (wordsO o) w) := by
  obtain ⟨h1, h2, h3, h4, h5⟩ := okOb_iff.1 hv
  have h400 := mostP_le o.kind
  have HP := Lib.hid hP
  obtain ⟨k, n, t, p⟩ := o
  dsimp only at h1 h2 h3 h4 h5 h400 HP ⊢
  have hk1 : (0 : Int) ≤ k := by omega
  have hk2 : k ≤ 5 := by omega
  have hp1 : p.length ≤ 400 := by omega
  have HH := Lib.hid (show headW k t.size p.length < 18446744073709551616 from (headW_kind (o := ⟨k, n, t, p⟩) hv).2.2.2)
  have HW := Lib.hid (show wordsO ⟨k, n, t, p⟩ = headW k t.size p.length :: (numW ⟨k, n, t, p⟩ ++ tw (bt t) t.size ++ p) from rfl)
  have hd : k + 256 * (t.size : Int) + 1048576 * (p.length : Int) = ((headW k t.size p.length : Nat) : Int) := by
    unfold headW; omega
  have HD := Lib.hid hd
  clear hv hP h2 h4 h5 h1 hd
  obtain ⟨hw0, hhw⟩ : ∃ hw0, headW k t.size p.length = hw0 := ⟨_, rfl⟩
  rw [hhw] at HH HW HD
  have HHW := Lib.hid hhw
  have hu1 : IntKind.u64.wrap (k + 256 * (t.size : Int)) = k + 256 * (t.size : Int) := by rw [IntKind.wrap_u64]; omega
  have hd := HD.out
  clear hhw
  have HBB := Lib.hid (show ∀ o o', Below w.heap.size w ((w.alloc o).alloc o') from fun o o' => ((Below.refl w.heap.size w).alloc (Nat.le_refl _) _).alloc (by simp) _)
  obtain ⟨W1, hW1⟩ : ∃ W1, W1 = (w.alloc (.cells #[.int .i64 at_, .int .i64 k, .int .i64 n, .string t, .slice pA p.length pc] 30)).alloc (.cells #[.int .u64 ((hw0 : Nat) : Int)] 34) := ⟨_, rfl⟩
  have HO1 := Lib.hid (show OwnU W1 (w.heap.size + 1) (.slice (some ⟨w.heap.size + 1, 0, none⟩) 1 1) [hw0] by
    rw [hW1]
    have := own_newU (w.alloc (.cells #[.int .i64 at_, .int .i64 k, .int .i64 n, .string t, .slice pA p.length pc] 30)) hw0 (w.heap.size + 1) (by simp)
    simpa using this)
  have HB1 := Lib.hid (show Below w.heap.size w W1 by rw [hW1]; exact HBB.out _ _)
  have HC1 := Lib.hid (show OB W1 w.heap.size at_ k n t pA p.length pc by rw [hW1]; exact (OB.new w at_ k n t pA p.length pc 30).grown (World.grownBy_alloc _ _ none) (fun g hg => by cases hg))
  cases hh : hasN k with
  | false =>
    have hk14 : k ≠ 1 ∧ k ≠ 4 := by simpa [hasN] using hh
    have e1 : (k == 1) = false := by simpa using hk14.1
    have e4 : (k == 4) = false := by simpa using hk14.2
    have HW0 := Lib.hid (show wordsO ⟨k, n, t, p⟩ = [hw0] ++ tw (bt t) t.size ++ p from by rw [HW.out]; unfold numW; rw [if_neg (by simp [hh])]; simp)
    clear hh hk14
    go_enter Try.func54, Try.ntmps54
    go_wp2_with fail
    rw [← hW1]
    clear hW1
    have HOS := HO1
    have HCS := HC1
    have HBS := HB1
    go_loopw [3, 4, 5, 6, 7] (fun l tt _ _ _ wr => ∃ (j : Nat) (s : ByteArray) (Al : Option Addr) (cl : Nat), tt = .string s ∧ s.data.toList = t.data.toList.drop (8 * j) ∧ 8 * j ≤ t.size + 7 ∧ l = .slice Al ([hw0] ++ (tw (bt t) t.size).take j).length cl ∧ OwnU wr (w.heap.size + 1) (.slice Al ([hw0] ++ (tw (bt t) t.size).take j).length cl) ([hw0] ++ (tw (bt t) t.size).take j) ∧ OB wr w.heap.size at_ k n t pA p.length pc ∧ Below w.heap.size w wr) (fun _ tt _ _ _ _ => strSize tt)
    case atStart => exact ⟨0, t, _, _, rfl, rfl, by omega, by simp; exact ⟨rfl, rfl⟩, by simpa using HOS.out, HCS.out, HBS.out⟩
    case round =>
      obtain ⟨j, s, Al, cl, rfl, hs, hj, rfl, hO, hC, hB⟩ := hrel
      obtain ⟨L, hL⟩ : ∃ L, [hw0] ++ (tw (bt t) t.size).take j = L := ⟨_, rfl⟩
      rw [hL] at hO
      rw [hL]
      have HLL := Lib.hid hL
      have HS := Lib.hid hs
      have HO := Lib.hid hO
      have HC := Lib.hid hC
      have HB := Lib.hid hB
      have hBs := hB.size
      have hssz : s.size = t.size - 8 * j := by
        have := congrArg List.length hs
        simpa [List.length_drop] using this
      have HSZ := Lib.hid hssz
      have hLb : L.length ≤ 400 := by
        rw [← hL, List.length_append, List.length_take, tw_len]
        simp
        omega
      clear hL hs hO hB hssz
      obtain ⟨c0, c1, c2, c3, c4, csz⟩ := hC
      by_cases h0 : s.size = 0
      · obtain rfl := size0_eq h0
        have HZJ := Lib.hid (show (t.size + 7) / 8 ≤ j from by
          have h3 : (0 : Nat) = t.size - 8 * j := HSZ.out
          omega)
        have HALL := Lib.hid (show wordsO ⟨k, n, t, p⟩ = L ++ p from by
          rw [HW0.out, ← HLL.out, List.take_of_length_le (by rw [tw_len]; exact HZJ.out)])
        clear h0
        have HPr := Lib.hid (HP.out.below HB.out)
        go_wp2_with (at_builtin; go_loud (refine wpList_append_us rfl _ _ 22 22 rfl Try.underlying22 Try.underlying22 (w.heap.size + 1) (.slice Al L.length cl) L rfl HO.out (.slice pA p.length pc) p rfl HPr.out (by omega) (by omega) ?_; intro v4 w4 hown4 hgrow4 hat4; have HO4 := Lib.hid hown4; have HG4 := Lib.hid hgrow4; clear hown4 hgrow4 hat4))
        go_ret
        rw [HALL.out]
        obtain ⟨A4, c4', hv4, _, _, _⟩ := own_any HO4.out
        exact ⟨A4, c4', by rw [← hv4]; rfl, by rw [← hv4]; exact HO4.out.mono (by omega), below_grown HB.out hBs HG4.out (fun g hg => by have := (HO.out.blk g hg).1; omega)⟩
      · have hne : s ≠ ⟨#[]⟩ := fun e => h0 (by rw [e]; rfl)
        have hq : s.toList.isEmpty = false := by
          rw [Lib.toList_data]
          cases e : s.data.toList with
          | nil => exact absurd (by show s.data.size = 0; rw [← Array.length_toList, e]; rfl) h0
          | cons a b => rfl
        have hs64 : s.size ≤ 64 := by have := HSZ.out; omega
        have HBT := Lib.hid (show ∀ q, q < s.size → bt s q = bt t (8 * j + q) from fun q hq => by
          unfold bt
          rw [HS.out]
          simp [List.getD, List.getElem?_drop])
        clear hne
        by_cases h8 : s.size < 8
        · have h8i : (s.size : Int) < 8 := by omega
          go_wp2_with fail
          go_loop [6, 7] (fun wv kv => ∃ i : Nat, i ≤ s.size ∧ wv = .int .u64 ((valT (bt t) (8 * j) s.size i : Nat) : Int) ∧ kv = .int .i64 ((s.size : Int) - 1 - (i : Int))) (fun _ kv => ((intOf kv) + 1).toNat)
          case atStart => exact ⟨0, Nat.zero_le _, rfl, by simp⟩
          case round =>
            obtain ⟨i, hi, rfl, rfl⟩ := hrel
            by_cases hlt : i < s.size
            · obtain ⟨kk, hkk⟩ : ∃ kk : Nat, (s.size : Int) - 1 - (i : Int) = (kk : Int) := ⟨s.size - 1 - i, by omega⟩
              have HKK := Lib.hid hkk
              rw [hkk]
              have hks : kk < s.size := by omega
              have hbq := bt_eq s hks
              have hbt := HBT.out kk hks
              have HVT := Lib.hid (show valT (bt t) (8 * j) s.size (i + 1) = 256 * valT (bt t) (8 * j) s.size i + s[kk].toNat from by
                rw [valT, hbq, hbt, show s.size - 1 - i = kk by omega])
              have hWl : valT (bt t) (8 * j) s.size i ≤ 72057594037927935 := valT_le (bt_lt t) (8 * j) s.size i (by omega)
              obtain ⟨y, hy⟩ : ∃ y, s[kk].toNat = y := ⟨_, rfl⟩
              have hyl : y < 256 := by rw [← hy]; exact UInt8.toNat_lt _
              obtain ⟨V, hV⟩ : ∃ V, valT (bt t) (8 * j) s.size i = V := ⟨_, rfl⟩
              rw [hV, hy] at HVT
              rw [hV] at hWl ⊢
              have k0 : (0 : Int) ≤ (kk : Int) := by omega
              have k1 : (kk : Int) < (s.size : Int) := by omega
              clear hkk hbq hbt hV
              go_wp2_with fail
              go_round
              case rel =>
                refine ⟨i + 1, by omega, ?_, ?_⟩
                · rw [HVT.out]; push_cast; rfl
                · congr 1
                  have := HKK.out
                  push_cast
                  omega
              case measure => (simp [intOf]) <;> omega
            · have hiM : i = s.size := by omega
              rw [hiM]
              have ek : (s.size : Int) - 1 - ((s.size : Nat) : Int) = -1 := by omega
              rw [ek]
              obtain ⟨x, hx⟩ : ∃ x, valT (bt t) (8 * j) s.size s.size = x := ⟨_, rfl⟩
              have HNX := Lib.hid (show [hw0] ++ (tw (bt t) t.size).take (j + 1) = L ++ [x] from by
                have h1 := HSZ.out
                rw [tw_take (bt t) t.size j (by omega), ← List.append_assoc, HLL.out, ← hx, valT_end]
                congr 3
                omega)
              rw [hx]
              have HOA := Lib.hid (show ∀ o, OwnU (wr.alloc o).drew (w.heap.size + 1) (.slice Al L.length cl) L from fun o => (HO.out.alloc o).below ((Below.refl _ _).drew))
              have HSA := Lib.hid (show Su (wr.alloc (.cells #[.int .u64 ((x : Nat) : Int)] 34)).drew (.slice (some ⟨wr.heap.size, 0, none⟩) 1 1) [x] from (Su.one wr x).below ((Below.refl _ _).drew))
              have HTL := Lib.hid (show ByteArray.empty.data.toList = t.data.toList.drop (8 * (j + 1)) from by
                have h1 := HSZ.out
                rw [List.drop_of_length_le (by rw [Array.length_toList]; show t.size ≤ _; omega)]
                rfl)
              have HTZ := Lib.hid (show ByteArray.empty.size < s.size from by show 0 < s.size; omega)
              have hMs : (s.size : Int) ≤ (s.size : Int) := by omega
              have hM0 : (0 : Int) ≤ (s.size : Int) := by omega
              have hzr1 : w.heap.size ≤ wr.heap.size := hBs
              clear hiM hlt hi ek hx
              go_wp2_with fail
              go_region_law (refine step_append_us rfl _ _ 22 22 rfl Try.underlying22 Try.underlying22 (w.heap.size + 1) (.slice Al L.length cl) L (by simp [Act.eval]) (HOA.out _) (.slice (some ⟨wr.heap.size, 0, none⟩) 1 1) [x] (by simp [Act.eval]) HSA.out (by simp only [List.length_cons, List.length_nil]; omega) (by simp; omega) ?_; intro v4 w4 hown4 hgrow4 hat4; obtain ⟨A4, c4', hv4, -, -, -⟩ := own_any hown4; subst hv4; have HO4 := Lib.hid hown4; have HG4 := Lib.hid hgrow4; clear hown4 hgrow4 hat4)
              all_goals
                simp only [Act.put, List.getElem_toArray, List.getElem_cons_zero, List.getElem_cons_succ, List.setIfInBounds_toArray, List.set_cons_zero, List.set_cons_succ]
                go_wp2_with fail
                go_roundw
                case rel =>
                  have hga : ∀ o, wr.grownBy (wr.alloc o).drew none := fun o => grown_drew' (World.grownBy_alloc wr o none)
                  refine ⟨j + 1, ByteArray.empty, A4, c4', rfl, HTL.out, by have := HSZ.out; omega, by rw [HNX.out, List.length_append]; rfl, by rw [HNX.out]; exact HO4.out, (HC.out.grown (hga _) (fun g hg => by cases hg)).grown HG4.out (fun g hg => (HO.out.blk g hg).1), below_grown (below_grown HB.out hBs (hga _) (by simp)) (by simp; omega) HG4.out (fun g hg => by have := (HO.out.blk g hg).1; omega)⟩
                case measure => exact HTZ.out
        · have h8i : (8 : Int) ≤ (s.size : Int) := by omega
          go_wp2_with fail
          go_loop [6, 7] (fun wv kv => ∃ i : Nat, i ≤ 8 ∧ wv = .int .u64 ((valT (bt t) (8 * j) 8 i : Nat) : Int) ∧ kv = .int .i64 ((8 : Int) - 1 - (i : Int))) (fun _ kv => ((intOf kv) + 1).toNat)
          case atStart => exact ⟨0, Nat.zero_le _, rfl, by simp⟩
          case round =>
            obtain ⟨i, hi, rfl, rfl⟩ := hrel
            by_cases hlt : i < 8
            · obtain ⟨kk, hkk⟩ : ∃ kk : Nat, (8 : Int) - 1 - (i : Int) = (kk : Int) := ⟨8 - 1 - i, by omega⟩
              have HKK := Lib.hid hkk
              rw [hkk]
              have hks : kk < s.size := by omega
              have hbq := bt_eq s hks
              have hbt := HBT.out kk hks
              have HVT := Lib.hid (show valT (bt t) (8 * j) 8 (i + 1) = 256 * valT (bt t) (8 * j) 8 i + s[kk].toNat from by
                rw [valT, hbq, hbt, show 8 - 1 - i = kk by omega])
              have hWl : valT (bt t) (8 * j) 8 i ≤ 72057594037927935 := valT_le (bt_lt t) (8 * j) 8 i (by omega)
              obtain ⟨y, hy⟩ : ∃ y, s[kk].toNat = y := ⟨_, rfl⟩
              have hyl : y < 256 := by rw [← hy]; exact UInt8.toNat_lt _
              obtain ⟨V, hV⟩ : ∃ V, valT (bt t) (8 * j) 8 i = V := ⟨_, rfl⟩
              rw [hV, hy] at HVT
              rw [hV] at hWl ⊢
              have k0 : (0 : Int) ≤ (kk : Int) := by omega
              have k1 : (kk : Int) < (s.size : Int) := by omega
              clear hkk hbq hbt hV
              go_wp2_with fail
              go_round
              case rel =>
                refine ⟨i + 1, by omega, ?_, ?_⟩
                · rw [HVT.out]; push_cast; rfl
                · congr 1
                  have := HKK.out
                  push_cast
                  omega
              case measure => (simp [intOf]) <;> omega
            · have hiM : i = 8 := by omega
              rw [hiM]
              have ek : (8 : Int) - 1 - ((8 : Nat) : Int) = -1 := by omega
              rw [ek]
              obtain ⟨x, hx⟩ : ∃ x, valT (bt t) (8 * j) 8 8 = x := ⟨_, rfl⟩
              have HNX := Lib.hid (show [hw0] ++ (tw (bt t) t.size).take (j + 1) = L ++ [x] from by
                have h1 := HSZ.out
                rw [tw_take (bt t) t.size j (by omega), ← List.append_assoc, HLL.out, ← hx, valT_end]
                congr 3
                omega)
              rw [hx]
              have HOA := Lib.hid (show ∀ o, OwnU (wr.alloc o).drew (w.heap.size + 1) (.slice Al L.length cl) L from fun o => (HO.out.alloc o).below ((Below.refl _ _).drew))
              have HSA := Lib.hid (show Su (wr.alloc (.cells #[.int .u64 ((x : Nat) : Int)] 34)).drew (.slice (some ⟨wr.heap.size, 0, none⟩) 1 1) [x] from (Su.one wr x).below ((Below.refl _ _).drew))
              have HTL := Lib.hid (show (s.extract 8 s.size).data.toList = t.data.toList.drop (8 * (j + 1)) from by
                rw [Lib.extract_to_end, HS.out, List.drop_drop, show 8 * (j + 1) = 8 * j + 8 by omega])
              have HTZ := Lib.hid (show (s.extract 8 s.size).size < s.size from by
                have h1 := congrArg List.length (Lib.extract_to_end s 8)
                rw [List.length_drop] at h1
                have h2 : (s.extract 8 s.size).size = s.size - 8 := h1
                rw [h2]
                omega)
              have hMs : (8 : Int) ≤ (s.size : Int) := by omega
              have hM0 : (0 : Int) ≤ (8 : Int) := by omega
              have hzr1 : w.heap.size ≤ wr.heap.size := hBs
              clear hiM hlt hi ek hx
              go_wp2_with fail
              go_region_law (refine step_append_us rfl _ _ 22 22 rfl Try.underlying22 Try.underlying22 (w.heap.size + 1) (.slice Al L.length cl) L (by simp [Act.eval]) (HOA.out _) (.slice (some ⟨wr.heap.size, 0, none⟩) 1 1) [x] (by simp [Act.eval]) HSA.out (by simp only [List.length_cons, List.length_nil]; omega) (by simp; omega) ?_; intro v4 w4 hown4 hgrow4 hat4; obtain ⟨A4, c4', hv4, -, -, -⟩ := own_any hown4; subst hv4; have HO4 := Lib.hid hown4; have HG4 := Lib.hid hgrow4; clear hown4 hgrow4 hat4)
              all_goals
                simp only [Act.put, List.getElem_toArray, List.getElem_cons_zero, List.getElem_cons_succ, List.setIfInBounds_toArray, List.set_cons_zero, List.set_cons_succ]
                go_wp2_with fail
                go_roundw
                case rel =>
                  have hga : ∀ o, wr.grownBy (wr.alloc o).drew none := fun o => grown_drew' (World.grownBy_alloc wr o none)
                  refine ⟨j + 1, s.extract 8 s.size, A4, c4', rfl, HTL.out, by have := HSZ.out; omega, by rw [HNX.out, List.length_append]; rfl, by rw [HNX.out]; exact HO4.out, (HC.out.grown (hga _) (fun g hg => by cases hg)).grown HG4.out (fun g hg => (HO.out.blk g hg).1), below_grown (below_grown HB.out hBs (hga _) (by simp)) (by simp; omega) HG4.out (fun g hg => by have := (HO.out.blk g hg).1; omega)⟩
                case measure => exact HTZ.out
  | true =>
    have hk : k = 1 ∨ k = 4 := by simpa [hasN] using hh
    have HW0 := Lib.hid (show wordsO ⟨k, n, t, p⟩ = [hw0, uN n] ++ tw (bt t) t.size ++ p from by rw [HW.out]; unfold numW; rw [if_pos (by simp [hh])]; simp)
    have hnw : IntKind.u64.wrap n = ((uN n : Nat) : Int) := by rw [uN_eq, IntKind.wrap_u64]
    clear hh
    rcases hk with rfl | rfl
    · go_enter Try.func54, Try.ntmps54
      go_wp2_with (at_builtin; go_loud (refine wpList_append_us rfl _ _ 22 22 rfl Try.underlying22 Try.underlying22 (w.heap.size + 1) (.slice (some ⟨w.heap.size + 1, 0, none⟩) 1 1) [hw0] rfl (by rw [← hW1]; exact HO1.out.alloc _) (.slice (some ⟨w.heap.size + 1 + 1, 0, none⟩) 1 1) [uN n] rfl (by exact Su.one' _ (uN n) _ (by simp)) (by simp) (by simp <;> omega) ?_; intro v4 w4 hown4 hgrow4 hat4; rw [← hW1] at hgrow4; obtain ⟨A4, c4, hv4, -, -, -⟩ := own_any hown4; subst hv4; have HOS := Lib.hid hown4; have HG4 := Lib.hid hgrow4; clear hown4 hgrow4 hat4; have HGR := Lib.hid (show W1.grownBy w4 (some (w.heap.size + 1)) from grown_step (grown_self W1 _) (grown_step (World.grownBy_alloc W1 _ (some (w.heap.size + 1))) HG4.out (.inl rfl)) (.inl rfl)); have HCS := Lib.hid (HC1.out.grown HGR.out (fun g hg => by injection hg with hg; omega)); have HBS := Lib.hid (below_grown HB1.out HB1.out.size HGR.out (fun g hg => by injection hg with hg; omega)); obtain ⟨d0, d1, d2, d3, d4, dsz⟩ := HCS.out))
      clear hW1 hnw d0 d1 d2 d3 d4 dsz
      go_loopw [3, 4, 5, 6, 7] (fun l tt _ _ _ wr => ∃ (j : Nat) (s : ByteArray) (Al : Option Addr) (cl : Nat), tt = .string s ∧ s.data.toList = t.data.toList.drop (8 * j) ∧ 8 * j ≤ t.size + 7 ∧ l = .slice Al ([hw0, uN n] ++ (tw (bt t) t.size).take j).length cl ∧ OwnU wr (w.heap.size + 1) (.slice Al ([hw0, uN n] ++ (tw (bt t) t.size).take j).length cl) ([hw0, uN n] ++ (tw (bt t) t.size).take j) ∧ OB wr w.heap.size at_ 1 n t pA p.length pc ∧ Below w.heap.size w wr) (fun _ tt _ _ _ _ => strSize tt)
      case atStart => exact ⟨0, t, _, _, rfl, rfl, by omega, by simp; exact ⟨rfl, rfl⟩, by simpa using HOS.out, HCS.out, HBS.out⟩
      case round =>
        obtain ⟨j, s, Al, cl, rfl, hs, hj, rfl, hO, hC, hB⟩ := hrel
        obtain ⟨L, hL⟩ : ∃ L, [hw0, uN n] ++ (tw (bt t) t.size).take j = L := ⟨_, rfl⟩
        rw [hL] at hO
        rw [hL]
        have HLL := Lib.hid hL
        have HS := Lib.hid hs
        have HO := Lib.hid hO
        have HC := Lib.hid hC
        have HB := Lib.hid hB
        have hBs := hB.size
        have hssz : s.size = t.size - 8 * j := by
          have := congrArg List.length hs
          simpa [List.length_drop] using this
        have HSZ := Lib.hid hssz
        have hLb : L.length ≤ 400 := by
          rw [← hL, List.length_append, List.length_take, tw_len]
          simp
          omega
        clear hL hs hO hB hssz
        obtain ⟨c0, c1, c2, c3, c4, csz⟩ := hC
        by_cases h0 : s.size = 0
        · obtain rfl := size0_eq h0
          have HZJ := Lib.hid (show (t.size + 7) / 8 ≤ j from by
            have h3 : (0 : Nat) = t.size - 8 * j := HSZ.out
            omega)
          have HALL := Lib.hid (show wordsO ⟨1, n, t, p⟩ = L ++ p from by
            rw [HW0.out, ← HLL.out, List.take_of_length_le (by rw [tw_len]; exact HZJ.out)])
          clear h0
          have HPr := Lib.hid (HP.out.below HB.out)
          go_wp2_with (at_builtin; go_loud (refine wpList_append_us rfl _ _ 22 22 rfl Try.underlying22 Try.underlying22 (w.heap.size + 1) (.slice Al L.length cl) L rfl HO.out (.slice pA p.length pc) p rfl HPr.out (by omega) (by omega) ?_; intro v4 w4 hown4 hgrow4 hat4; have HO4 := Lib.hid hown4; have HG4 := Lib.hid hgrow4; clear hown4 hgrow4 hat4))
          go_ret
          rw [HALL.out]
          obtain ⟨A4, c4', hv4, _, _, _⟩ := own_any HO4.out
          exact ⟨A4, c4', by rw [← hv4]; rfl, by rw [← hv4]; exact HO4.out.mono (by omega), below_grown HB.out hBs HG4.out (fun g hg => by have := (HO.out.blk g hg).1; omega)⟩
        · have hne : s ≠ ⟨#[]⟩ := fun e => h0 (by rw [e]; rfl)
          have hq : s.toList.isEmpty = false := by
            rw [Lib.toList_data]
            cases e : s.data.toList with
            | nil => exact absurd (by show s.data.size = 0; rw [← Array.length_toList, e]; rfl) h0
            | cons a b => rfl
          have hs64 : s.size ≤ 64 := by have := HSZ.out; omega
          have HBT := Lib.hid (show ∀ q, q < s.size → bt s q = bt t (8 * j + q) from fun q hq => by
            unfold bt
            rw [HS.out]
            simp [List.getD, List.getElem?_drop])
          clear hne
          by_cases h8 : s.size < 8
          · have h8i : (s.size : Int) < 8 := by omega
            go_wp2_with fail
            go_loop [6, 7] (fun wv kv => ∃ i : Nat, i ≤ s.size ∧ wv = .int .u64 ((valT (bt t) (8 * j) s.size i : Nat) : Int) ∧ kv = .int .i64 ((s.size : Int) - 1 - (i : Int))) (fun _ kv => ((intOf kv) + 1).toNat)
            case atStart => exact ⟨0, Nat.zero_le _, rfl, by simp⟩
            case round =>
              obtain ⟨i, hi, rfl, rfl⟩ := hrel
              by_cases hlt : i < s.size
              · obtain ⟨kk, hkk⟩ : ∃ kk : Nat, (s.size : Int) - 1 - (i : Int) = (kk : Int) := ⟨s.size - 1 - i, by omega⟩
                have H1 := Lib.hid hkk
                rw [hkk]
                have hks : kk < s.size := by omega
                have hbq := bt_eq s hks
                have hbt := HBT.out kk hks
                have HVT := Lib.hid (show valT (bt t) (8 * j) s.size (i + 1) = 256 * valT (bt t) (8 * j) s.size i + s[kk].toNat from by
                  rw [valT, hbq, hbt, show s.size - 1 - i = kk by omega])
                have hWl : valT (bt t) (8 * j) s.size i ≤ 72057594037927935 := valT_le (bt_lt t) (8 * j) s.size i (by omega)
                obtain ⟨y, hy⟩ : ∃ y, s[kk].toNat = y := ⟨_, rfl⟩
                have hyl : y < 256 := by rw [← hy]; exact UInt8.toNat_lt _
                obtain ⟨V, hV⟩ : ∃ V, valT (bt t) (8 * j) s.size i = V := ⟨_, rfl⟩
                rw [hV, hy] at HVT
                rw [hV] at hWl ⊢
                have k0 : (0 : Int) ≤ (kk : Int) := by omega
                have k1 : (kk : Int) < (s.size : Int) := by omega
                clear hkk hbq hbt hV
                go_wp2_with fail
                go_round
                case rel =>
                  refine ⟨i + 1, by omega, ?_, ?_⟩
                  · rw [HVT.out]; push_cast; rfl
                  · congr 1
                    have := H1.out
                    push_cast
                    omega
                case measure => (simp [intOf]) <;> omega
              · have hiM : i = s.size := by omega
                rw [hiM]
                have ek : (s.size : Int) - 1 - ((s.size : Nat) : Int) = -1 := by omega
                rw [ek]
                obtain ⟨x, hx⟩ : ∃ x, valT (bt t) (8 * j) s.size s.size = x := ⟨_, rfl⟩
                have HNX := Lib.hid (show [hw0, uN n] ++ (tw (bt t) t.size).take (j + 1) = L ++ [x] from by
                  have h1 := HSZ.out
                  rw [tw_take (bt t) t.size j (by omega), ← List.append_assoc, HLL.out, ← hx, valT_end]
                  congr 3
                  omega)
                rw [hx]
                have HOA := Lib.hid (show ∀ o, OwnU (wr.alloc o).drew (w.heap.size + 1) (.slice Al L.length cl) L from fun o => (HO.out.alloc o).below ((Below.refl _ _).drew))
                have HSA := Lib.hid (show Su (wr.alloc (.cells #[.int .u64 ((x : Nat) : Int)] 34)).drew (.slice (some ⟨wr.heap.size, 0, none⟩) 1 1) [x] from (Su.one wr x).below ((Below.refl _ _).drew))
                have HTL := Lib.hid (show ByteArray.empty.data.toList = t.data.toList.drop (8 * (j + 1)) from by
                  have h1 := HSZ.out
                  rw [List.drop_of_length_le (by rw [Array.length_toList]; show t.size ≤ _; omega)]
                  rfl)
                have HTZ := Lib.hid (show ByteArray.empty.size < s.size from by show 0 < s.size; omega)
                have hMs : (s.size : Int) ≤ (s.size : Int) := by omega
                have hM0 : (0 : Int) ≤ (s.size : Int) := by omega
                have hzr1 : w.heap.size ≤ wr.heap.size := hBs
                clear hiM hlt hi ek hx
                go_wp2_with fail
                go_region_law (refine step_append_us rfl _ _ 22 22 rfl Try.underlying22 Try.underlying22 (w.heap.size + 1) (.slice Al L.length cl) L (by simp [Act.eval]) (HOA.out _) (.slice (some ⟨wr.heap.size, 0, none⟩) 1 1) [x] (by simp [Act.eval]) HSA.out (by simp only [List.length_cons, List.length_nil]; omega) (by simp; omega) ?_; intro v4 w4 hown4 hgrow4 hat4; obtain ⟨A4, c4', hv4, -, -, -⟩ := own_any hown4; subst hv4; have HO4 := Lib.hid hown4; have HG4 := Lib.hid hgrow4; clear hown4 hgrow4 hat4)
                all_goals
                  simp only [Act.put, List.getElem_toArray, List.getElem_cons_zero, List.getElem_cons_succ, List.setIfInBounds_toArray, List.set_cons_zero, List.set_cons_succ]
                  go_wp2_with fail
                  go_roundw
                  case rel =>
                    have hga : ∀ o, wr.grownBy (wr.alloc o).drew none := fun o => grown_drew' (World.grownBy_alloc wr o none)
                    refine ⟨j + 1, ByteArray.empty, A4, c4', rfl, HTL.out, by have := HSZ.out; omega, by rw [HNX.out, List.length_append]; rfl, by rw [HNX.out]; exact HO4.out, (HC.out.grown (hga _) (fun g hg => by cases hg)).grown HG4.out (fun g hg => (HO.out.blk g hg).1), below_grown (below_grown HB.out hBs (hga _) (by simp)) (by simp; omega) HG4.out (fun g hg => by have := (HO.out.blk g hg).1; omega)⟩
                  case measure => exact HTZ.out
          · have h8i : (8 : Int) ≤ (s.size : Int) := by omega
            go_wp2_with fail
            go_loop [6, 7] (fun wv kv => ∃ i : Nat, i ≤ 8 ∧ wv = .int .u64 ((valT (bt t) (8 * j) 8 i : Nat) : Int) ∧ kv = .int .i64 ((8 : Int) - 1 - (i : Int))) (fun _ kv => ((intOf kv) + 1).toNat)
            case atStart => exact ⟨0, Nat.zero_le _, rfl, by simp⟩
            case round =>
              obtain ⟨i, hi, rfl, rfl⟩ := hrel
              by_cases hlt : i < 8
              · obtain ⟨kk, hkk⟩ : ∃ kk : Nat, (8 : Int) - 1 - (i : Int) = (kk : Int) := ⟨8 - 1 - i, by omega⟩
                have H1 := Lib.hid hkk
                rw [hkk]
                have hks : kk < s.size := by omega
                have hbq := bt_eq s hks
                have hbt := HBT.out kk hks
                have HVT := Lib.hid (show valT (bt t) (8 * j) 8 (i + 1) = 256 * valT (bt t) (8 * j) 8 i + s[kk].toNat from by
                  rw [valT, hbq, hbt, show 8 - 1 - i = kk by omega])
                have hWl : valT (bt t) (8 * j) 8 i ≤ 72057594037927935 := valT_le (bt_lt t) (8 * j) 8 i (by omega)
                obtain ⟨y, hy⟩ : ∃ y, s[kk].toNat = y := ⟨_, rfl⟩
                have hyl : y < 256 := by rw [← hy]; exact UInt8.toNat_lt _
                obtain ⟨V, hV⟩ : ∃ V, valT (bt t) (8 * j) 8 i = V := ⟨_, rfl⟩
                rw [hV, hy] at HVT
                rw [hV] at hWl ⊢
                have k0 : (0 : Int) ≤ (kk : Int) := by omega
                have k1 : (kk : Int) < (s.size : Int) := by omega
                clear hkk hbq hbt hV
                go_wp2_with fail
                go_round
                case rel =>
                  refine ⟨i + 1, by omega, ?_, ?_⟩
                  · rw [HVT.out]; push_cast; rfl
                  · congr 1
                    have := H1.out
                    push_cast
                    omega
                case measure => (simp [intOf]) <;> omega
              · have hiM : i = 8 := by omega
                rw [hiM]
                have ek : (8 : Int) - 1 - ((8 : Nat) : Int) = -1 := by omega
                rw [ek]
                obtain ⟨x, hx⟩ : ∃ x, valT (bt t) (8 * j) 8 8 = x := ⟨_, rfl⟩
                have HNX := Lib.hid (show [hw0, uN n] ++ (tw (bt t) t.size).take (j + 1) = L ++ [x] from by
                  have h1 := HSZ.out
                  rw [tw_take (bt t) t.size j (by omega), ← List.append_assoc, HLL.out, ← hx, valT_end]
                  congr 3
                  omega)
                rw [hx]
                have HOA := Lib.hid (show ∀ o, OwnU (wr.alloc o).drew (w.heap.size + 1) (.slice Al L.length cl) L from fun o => (HO.out.alloc o).below ((Below.refl _ _).drew))
                have HSA := Lib.hid (show Su (wr.alloc (.cells #[.int .u64 ((x : Nat) : Int)] 34)).drew (.slice (some ⟨wr.heap.size, 0, none⟩) 1 1) [x] from (Su.one wr x).below ((Below.refl _ _).drew))
                have HTL := Lib.hid (show (s.extract 8 s.size).data.toList = t.data.toList.drop (8 * (j + 1)) from by
                  rw [Lib.extract_to_end, HS.out, List.drop_drop, show 8 * (j + 1) = 8 * j + 8 by omega])
                have HTZ := Lib.hid (show (s.extract 8 s.size).size < s.size from by
                  have h1 := congrArg List.length (Lib.extract_to_end s 8)
                  rw [List.length_drop] at h1
                  have h2 : (s.extract 8 s.size).size = s.size - 8 := h1
                  rw [h2]
                  omega)
                have hMs : (8 : Int) ≤ (s.size : Int) := by omega
                have hM0 : (0 : Int) ≤ (8 : Int) := by omega
                have hzr1 : w.heap.size ≤ wr.heap.size := hBs
                clear hiM hlt hi ek hx
                go_wp2_with fail
                go_region_law (refine step_append_us rfl _ _ 22 22 rfl Try.underlying22 Try.underlying22 (w.heap.size + 1) (.slice Al L.length cl) L (by simp [Act.eval]) (HOA.out _) (.slice (some ⟨wr.heap.size, 0, none⟩) 1 1) [x] (by simp [Act.eval]) HSA.out (by simp only [List.length_cons, List.length_nil]; omega) (by simp; omega) ?_; intro v4 w4 hown4 hgrow4 hat4; obtain ⟨A4, c4', hv4, -, -, -⟩ := own_any hown4; subst hv4; have HO4 := Lib.hid hown4; have HG4 := Lib.hid hgrow4; clear hown4 hgrow4 hat4)
                all_goals
                  simp only [Act.put, List.getElem_toArray, List.getElem_cons_zero, List.getElem_cons_succ, List.setIfInBounds_toArray, List.set_cons_zero, List.set_cons_succ]
                  go_wp2_with fail
                  go_roundw
                  case rel =>
                    have hga : ∀ o, wr.grownBy (wr.alloc o).drew none := fun o => grown_drew' (World.grownBy_alloc wr o none)
                    refine ⟨j + 1, s.extract 8 s.size, A4, c4', rfl, HTL.out, by have := HSZ.out; omega, by rw [HNX.out, List.length_append]; rfl, by rw [HNX.out]; exact HO4.out, (HC.out.grown (hga _) (fun g hg => by cases hg)).grown HG4.out (fun g hg => (HO.out.blk g hg).1), below_grown (below_grown HB.out hBs (hga _) (by simp)) (by simp; omega) HG4.out (fun g hg => by have := (HO.out.blk g hg).1; omega)⟩
                  case measure => exact HTZ.out
    · go_enter Try.func54, Try.ntmps54
      go_wp2_with (at_builtin; go_loud (refine wpList_append_us rfl _ _ 22 22 rfl Try.underlying22 Try.underlying22 (w.heap.size + 1) (.slice (some ⟨w.heap.size + 1, 0, none⟩) 1 1) [hw0] rfl (by rw [← hW1]; exact HO1.out.alloc _) (.slice (some ⟨w.heap.size + 1 + 1, 0, none⟩) 1 1) [uN n] rfl (by exact Su.one' _ (uN n) _ (by simp)) (by simp) (by simp <;> omega) ?_; intro v4 w4 hown4 hgrow4 hat4; rw [← hW1] at hgrow4; obtain ⟨A4, c4, hv4, -, -, -⟩ := own_any hown4; subst hv4; have HOS := Lib.hid hown4; have HG4 := Lib.hid hgrow4; clear hown4 hgrow4 hat4; have HGR := Lib.hid (show W1.grownBy w4 (some (w.heap.size + 1)) from grown_step (grown_self W1 _) (grown_step (World.grownBy_alloc W1 _ (some (w.heap.size + 1))) HG4.out (.inl rfl)) (.inl rfl)); have HCS := Lib.hid (HC1.out.grown HGR.out (fun g hg => by injection hg with hg; omega)); have HBS := Lib.hid (below_grown HB1.out HB1.out.size HGR.out (fun g hg => by injection hg with hg; omega)); obtain ⟨d0, d1, d2, d3, d4, dsz⟩ := HCS.out))
      clear hW1 hnw d0 d1 d2 d3 d4 dsz
      go_loopw [3, 4, 5, 6, 7] (fun l tt _ _ _ wr => ∃ (j : Nat) (s : ByteArray) (Al : Option Addr) (cl : Nat), tt = .string s ∧ s.data.toList = t.data.toList.drop (8 * j) ∧ 8 * j ≤ t.size + 7 ∧ l = .slice Al ([hw0, uN n] ++ (tw (bt t) t.size).take j).length cl ∧ OwnU wr (w.heap.size + 1) (.slice Al ([hw0, uN n] ++ (tw (bt t) t.size).take j).length cl) ([hw0, uN n] ++ (tw (bt t) t.size).take j) ∧ OB wr w.heap.size at_ 4 n t pA p.length pc ∧ Below w.heap.size w wr) (fun _ tt _ _ _ _ => strSize tt)
      case atStart => exact ⟨0, t, _, _, rfl, rfl, by omega, by simp; exact ⟨rfl, rfl⟩, by simpa using HOS.out, HCS.out, HBS.out⟩
      case round =>
        obtain ⟨j, s, Al, cl, rfl, hs, hj, rfl, hO, hC, hB⟩ := hrel
        obtain ⟨L, hL⟩ : ∃ L, [hw0, uN n] ++ (tw (bt t) t.size).take j = L := ⟨_, rfl⟩
        rw [hL] at hO
        rw [hL]
        have HLL := Lib.hid hL
        have HS := Lib.hid hs
        have HO := Lib.hid hO
        have HC := Lib.hid hC
        have HB := Lib.hid hB
        have hBs := hB.size
        have hssz : s.size = t.size - 8 * j := by
          have := congrArg List.length hs
          simpa [List.length_drop] using this
        have HSZ := Lib.hid hssz
        have hLb : L.length ≤ 400 := by
          rw [← hL, List.length_append, List.length_take, tw_len]
          simp
          omega
        clear hL hs hO hB hssz
        obtain ⟨c0, c1, c2, c3, c4, csz⟩ := hC
        by_cases h0 : s.size = 0
        · obtain rfl := size0_eq h0
          have HZJ := Lib.hid (show (t.size + 7) / 8 ≤ j from by
            have h3 : (0 : Nat) = t.size - 8 * j := HSZ.out
            omega)
          have HALL := Lib.hid (show wordsO ⟨4, n, t, p⟩ = L ++ p from by
            rw [HW0.out, ← HLL.out, List.take_of_length_le (by rw [tw_len]; exact HZJ.out)])
          clear h0
          have HPr := Lib.hid (HP.out.below HB.out)
          go_wp2_with (at_builtin; go_loud (refine wpList_append_us rfl _ _ 22 22 rfl Try.underlying22 Try.underlying22 (w.heap.size + 1) (.slice Al L.length cl) L rfl HO.out (.slice pA p.length pc) p rfl HPr.out (by omega) (by omega) ?_; intro v4 w4 hown4 hgrow4 hat4; have HO4 := Lib.hid hown4; have HG4 := Lib.hid hgrow4; clear hown4 hgrow4 hat4))
          go_ret
          rw [HALL.out]
          obtain ⟨A4, c4', hv4, _, _, _⟩ := own_any HO4.out
          exact ⟨A4, c4', by rw [← hv4]; rfl, by rw [← hv4]; exact HO4.out.mono (by omega), below_grown HB.out hBs HG4.out (fun g hg => by have := (HO.out.blk g hg).1; omega)⟩
        · have hne : s ≠ ⟨#[]⟩ := fun e => h0 (by rw [e]; rfl)
          have hq : s.toList.isEmpty = false := by
            rw [Lib.toList_data]
            cases e : s.data.toList with
            | nil => exact absurd (by show s.data.size = 0; rw [← Array.length_toList, e]; rfl) h0
            | cons a b => rfl
          have hs64 : s.size ≤ 64 := by have := HSZ.out; omega
          have HBT := Lib.hid (show ∀ q, q < s.size → bt s q = bt t (8 * j + q) from fun q hq => by
            unfold bt
            rw [HS.out]
            simp [List.getD, List.getElem?_drop])
          clear hne
          by_cases h8 : s.size < 8
          · have h8i : (s.size : Int) < 8 := by omega
            go_wp2_with fail
            go_loop [6, 7] (fun wv kv => ∃ i : Nat, i ≤ s.size ∧ wv = .int .u64 ((valT (bt t) (8 * j) s.size i : Nat) : Int) ∧ kv = .int .i64 ((s.size : Int) - 1 - (i : Int))) (fun _ kv => ((intOf kv) + 1).toNat)
            case atStart => exact ⟨0, Nat.zero_le _, rfl, by simp⟩
            case round =>
              obtain ⟨i, hi, rfl, rfl⟩ := hrel
              by_cases hlt : i < s.size
              · obtain ⟨kk, hkk⟩ : ∃ kk : Nat, (s.size : Int) - 1 - (i : Int) = (kk : Int) := ⟨s.size - 1 - i, by omega⟩
                have H4 := Lib.hid hkk
                rw [hkk]
                have hks : kk < s.size := by omega
                have hbq := bt_eq s hks
                have hbt := HBT.out kk hks
                have HVT := Lib.hid (show valT (bt t) (8 * j) s.size (i + 1) = 256 * valT (bt t) (8 * j) s.size i + s[kk].toNat from by
                  rw [valT, hbq, hbt, show s.size - 1 - i = kk by omega])
                have hWl : valT (bt t) (8 * j) s.size i ≤ 72057594037927935 := valT_le (bt_lt t) (8 * j) s.size i (by omega)
                obtain ⟨y, hy⟩ : ∃ y, s[kk].toNat = y := ⟨_, rfl⟩
                have hyl : y < 256 := by rw [← hy]; exact UInt8.toNat_lt _
                obtain ⟨V, hV⟩ : ∃ V, valT (bt t) (8 * j) s.size i = V := ⟨_, rfl⟩
                rw [hV, hy] at HVT
                rw [hV] at hWl ⊢
                have k0 : (0 : Int) ≤ (kk : Int) := by omega
                have k1 : (kk : Int) < (s.size : Int) := by omega
                clear hkk hbq hbt hV
                go_wp2_with fail
                go_round
                case rel =>
                  refine ⟨i + 1, by omega, ?_, ?_⟩
                  · rw [HVT.out]; push_cast; rfl
                  · congr 1
                    have := H4.out
                    push_cast
                    omega
                case measure => (simp [intOf]) <;> omega
              · have hiM : i = s.size := by omega
                rw [hiM]
                have ek : (s.size : Int) - 1 - ((s.size : Nat) : Int) = -1 := by omega
                rw [ek]
                obtain ⟨x, hx⟩ : ∃ x, valT (bt t) (8 * j) s.size s.size = x := ⟨_, rfl⟩
                have HNX := Lib.hid (show [hw0, uN n] ++ (tw (bt t) t.size).take (j + 1) = L ++ [x] from by
                  have h1 := HSZ.out
                  rw [tw_take (bt t) t.size j (by omega), ← List.append_assoc, HLL.out, ← hx, valT_end]
                  congr 3
                  omega)
                rw [hx]
                have HOA := Lib.hid (show ∀ o, OwnU (wr.alloc o).drew (w.heap.size + 1) (.slice Al L.length cl) L from fun o => (HO.out.alloc o).below ((Below.refl _ _).drew))
                have HSA := Lib.hid (show Su (wr.alloc (.cells #[.int .u64 ((x : Nat) : Int)] 34)).drew (.slice (some ⟨wr.heap.size, 0, none⟩) 1 1) [x] from (Su.one wr x).below ((Below.refl _ _).drew))
                have HTL := Lib.hid (show ByteArray.empty.data.toList = t.data.toList.drop (8 * (j + 1)) from by
                  have h1 := HSZ.out
                  rw [List.drop_of_length_le (by rw [Array.length_toList]; show t.size ≤ _; omega)]
                  rfl)
                have HTZ := Lib.hid (show ByteArray.empty.size < s.size from by show 0 < s.size; omega)
                have hMs : (s.size : Int) ≤ (s.size : Int) := by omega
                have hM0 : (0 : Int) ≤ (s.size : Int) := by omega
                have hzr1 : w.heap.size ≤ wr.heap.size := hBs
                clear hiM hlt hi ek hx
                go_wp2_with fail
                go_region_law (refine step_append_us rfl _ _ 22 22 rfl Try.underlying22 Try.underlying22 (w.heap.size + 1) (.slice Al L.length cl) L (by simp [Act.eval]) (HOA.out _) (.slice (some ⟨wr.heap.size, 0, none⟩) 1 1) [x] (by simp [Act.eval]) HSA.out (by simp only [List.length_cons, List.length_nil]; omega) (by simp; omega) ?_; intro v4 w4 hown4 hgrow4 hat4; obtain ⟨A4, c4', hv4, -, -, -⟩ := own_any hown4; subst hv4; have HO4 := Lib.hid hown4; have HG4 := Lib.hid hgrow4; clear hown4 hgrow4 hat4)
                all_goals
                  simp only [Act.put, List.getElem_toArray, List.getElem_cons_zero, List.getElem_cons_succ, List.setIfInBounds_toArray, List.set_cons_zero, List.set_cons_succ]
                  go_wp2_with fail
                  go_roundw
                  case rel =>
                    have hga : ∀ o, wr.grownBy (wr.alloc o).drew none := fun o => grown_drew' (World.grownBy_alloc wr o none)
                    refine ⟨j + 1, ByteArray.empty, A4, c4', rfl, HTL.out, by have := HSZ.out; omega, by rw [HNX.out, List.length_append]; rfl, by rw [HNX.out]; exact HO4.out, (HC.out.grown (hga _) (fun g hg => by cases hg)).grown HG4.out (fun g hg => (HO.out.blk g hg).1), below_grown (below_grown HB.out hBs (hga _) (by simp)) (by simp; omega) HG4.out (fun g hg => by have := (HO.out.blk g hg).1; omega)⟩
                  case measure => exact HTZ.out
          · have h8i : (8 : Int) ≤ (s.size : Int) := by omega
            go_wp2_with fail
            go_loop [6, 7] (fun wv kv => ∃ i : Nat, i ≤ 8 ∧ wv = .int .u64 ((valT (bt t) (8 * j) 8 i : Nat) : Int) ∧ kv = .int .i64 ((8 : Int) - 1 - (i : Int))) (fun _ kv => ((intOf kv) + 1).toNat)
            case atStart => exact ⟨0, Nat.zero_le _, rfl, by simp⟩
            case round =>
              obtain ⟨i, hi, rfl, rfl⟩ := hrel
              by_cases hlt : i < 8
              · obtain ⟨kk, hkk⟩ : ∃ kk : Nat, (8 : Int) - 1 - (i : Int) = (kk : Int) := ⟨8 - 1 - i, by omega⟩
                have H4 := Lib.hid hkk
                rw [hkk]
                have hks : kk < s.size := by omega
                have hbq := bt_eq s hks
                have hbt := HBT.out kk hks
                have HVT := Lib.hid (show valT (bt t) (8 * j) 8 (i + 1) = 256 * valT (bt t) (8 * j) 8 i + s[kk].toNat from by
                  rw [valT, hbq, hbt, show 8 - 1 - i = kk by omega])
                have hWl : valT (bt t) (8 * j) 8 i ≤ 72057594037927935 := valT_le (bt_lt t) (8 * j) 8 i (by omega)
                obtain ⟨y, hy⟩ : ∃ y, s[kk].toNat = y := ⟨_, rfl⟩
                have hyl : y < 256 := by rw [← hy]; exact UInt8.toNat_lt _
                obtain ⟨V, hV⟩ : ∃ V, valT (bt t) (8 * j) 8 i = V := ⟨_, rfl⟩
                rw [hV, hy] at HVT
                rw [hV] at hWl ⊢
                have k0 : (0 : Int) ≤ (kk : Int) := by omega
                have k1 : (kk : Int) < (s.size : Int) := by omega
                clear hkk hbq hbt hV
                go_wp2_with fail
                go_round
                case rel =>
                  refine ⟨i + 1, by omega, ?_, ?_⟩
                  · rw [HVT.out]; push_cast; rfl
                  · congr 1
                    have := H4.out
                    push_cast
                    omega
                case measure => (simp [intOf]) <;> omega
              · have hiM : i = 8 := by omega
                rw [hiM]
                have ek : (8 : Int) - 1 - ((8 : Nat) : Int) = -1 := by omega
                rw [ek]
                obtain ⟨x, hx⟩ : ∃ x, valT (bt t) (8 * j) 8 8 = x := ⟨_, rfl⟩
                have HNX := Lib.hid (show [hw0, uN n] ++ (tw (bt t) t.size).take (j + 1) = L ++ [x] from by
                  have h1 := HSZ.out
                  rw [tw_take (bt t) t.size j (by omega), ← List.append_assoc, HLL.out, ← hx, valT_end]
                  congr 3
                  omega)
                rw [hx]
                have HOA := Lib.hid (show ∀ o, OwnU (wr.alloc o).drew (w.heap.size + 1) (.slice Al L.length cl) L from fun o => (HO.out.alloc o).below ((Below.refl _ _).drew))
                have HSA := Lib.hid (show Su (wr.alloc (.cells #[.int .u64 ((x : Nat) : Int)] 34)).drew (.slice (some ⟨wr.heap.size, 0, none⟩) 1 1) [x] from (Su.one wr x).below ((Below.refl _ _).drew))
                have HTL := Lib.hid (show (s.extract 8 s.size).data.toList = t.data.toList.drop (8 * (j + 1)) from by
                  rw [Lib.extract_to_end, HS.out, List.drop_drop, show 8 * (j + 1) = 8 * j + 8 by omega])
                have HTZ := Lib.hid (show (s.extract 8 s.size).size < s.size from by
                  have h1 := congrArg List.length (Lib.extract_to_end s 8)
                  rw [List.length_drop] at h1
                  have h2 : (s.extract 8 s.size).size = s.size - 8 := h1
                  rw [h2]
                  omega)
                have hMs : (8 : Int) ≤ (s.size : Int) := by omega
                have hM0 : (0 : Int) ≤ (8 : Int) := by omega
                have hzr1 : w.heap.size ≤ wr.heap.size := hBs
                clear hiM hlt hi ek hx
                go_wp2_with fail
                go_region_law (refine step_append_us rfl _ _ 22 22 rfl Try.underlying22 Try.underlying22 (w.heap.size + 1) (.slice Al L.length cl) L (by simp [Act.eval]) (HOA.out _) (.slice (some ⟨wr.heap.size, 0, none⟩) 1 1) [x] (by simp [Act.eval]) HSA.out (by simp only [List.length_cons, List.length_nil]; omega) (by simp; omega) ?_; intro v4 w4 hown4 hgrow4 hat4; obtain ⟨A4, c4', hv4, -, -, -⟩ := own_any hown4; subst hv4; have HO4 := Lib.hid hown4; have HG4 := Lib.hid hgrow4; clear hown4 hgrow4 hat4)
                all_goals
                  simp only [Act.put, List.getElem_toArray, List.getElem_cons_zero, List.getElem_cons_succ, List.setIfInBounds_toArray, List.set_cons_zero, List.set_cons_succ]
                  go_wp2_with fail
                  go_roundw
                  case rel =>
                    have hga : ∀ o, wr.grownBy (wr.alloc o).drew none := fun o => grown_drew' (World.grownBy_alloc wr o none)
                    refine ⟨j + 1, s.extract 8 s.size, A4, c4', rfl, HTL.out, by have := HSZ.out; omega, by rw [HNX.out, List.length_append]; rfl, by rw [HNX.out]; exact HO4.out, (HC.out.grown (hga _) (fun g hg => by cases hg)).grown HG4.out (fun g hg => (HO.out.blk g hg).1), below_grown (below_grown HB.out hBs (hga _) (by simp)) (by simp; omega) HG4.out (fun g hg => by have := (HO.out.blk g hg).1; omega)⟩
                  case measure => exact HTZ.out

end Go.Proofs.Ytmpeckjemgenbaa
