/-
  Conv: fields of bits: contract of DocSet.
-/
import Derived.Test.YtdoaepopkdeonaaC2
namespace Go.Proofs.Ytdoaepopkdeonaa
set_option linter.unusedVariables false
set_option linter.unusedSimpArgs false
open Go.RowKit

theorem docSet_no (N T : Nat) (a b : Int) (h : ¬ FieldOk a b) (w : World) :
    Calls Try.prog 20 #[.int .u64 N, .int .i64 a, .int .i64 b, .int .u64 T] w fun e w' => e = .returned (.tuple #[.int .u64 0, .int .i64 1]) ∧ Below w.heap.size w w' := by
  have hf := Lib.hid (field_no a b h)
  clear h
  go_enter Try.func20, Try.ntmps20
  go_wp2_with (go_at_call 40; refine (hf.out _).mono ?_; rintro e w' ⟨rfl, rfl⟩)
  go_ret2
  exact ⟨rfl, Below.refl _ _⟩

/-- No bit from b on. -/
theorem small_iff (T b : Nat) (hT : T ≤ 18446744073709551615) (h : ∀ i, b ≤ i → i < 64 → T.testBit i = false) : T < 2 ^ b := by
  apply Nat.lt_pow_two_of_testBit
  intro i hi
  by_cases h64 : i < 64
  · exact h i hi h64
  · exact Nat.testBit_lt_two_pow (Nat.lt_of_lt_of_le (show T < 2 ^ 64 by omega) (Nat.pow_le_pow_right (by decide) (by omega)))
theorem small_bit (T b i : Nat) (hT : T < 2 ^ b) (h : b ≤ i) : T.testBit i = false :=
  Nat.testBit_lt_two_pow (Nat.lt_of_lt_of_le hT (Nat.pow_le_pow_right (by decide) h))

set_option maxHeartbeats 800000 in
theorem docSet_big (N a b T : Nat) (hT : T ≤ 18446744073709551615) (h : a + b ≤ 64) (hb : ¬ T < 2 ^ b) (w : World) :
    Calls Try.prog 20 #[.int .u64 N, .int .i64 a, .int .i64 b, .int .u64 T] w fun e w' => e = .returned (.tuple #[.int .u64 0, .int .i64 14]) ∧ Below w.heap.size w w' := by
  have hf := Lib.hid (field_yes a b (by unfold FieldOk; omega))
  have hs := Lib.hid (split_own T 64 hT (by decide) (by decide))
  have HB := Lib.hid (fun h => hb (small_iff T b hT h))
  clear hb hT
  go_enter Try.func20, Try.ntmps20
  go_wp2_with (go_at_call 40; refine (hf.out _).mono ?_; rintro e w' ⟨rfl, rfl⟩)
  refine (hs.out _).mono ?_
  rintro e w1 ⟨g, cap, rfl, hown, hc1, hc2, hb1⟩
  have HO := Lib.hid hown
  clear hown hc1 hc2
  go_wp2
  go_loop [11] (fun i => ∃ k : Nat, b ≤ k ∧ k ≤ 64 ∧ i = .int .i64 k ∧ Hid (∀ j, b ≤ j → j < k → T.testBit j = false)) (fun i => 64 - (intOf i).toNat)
  case atStart => exact ⟨b, Nat.le_refl _, by omega, rfl, Lib.hid (fun j h1 h2 => absurd h2 (by omega))⟩
  case round =>
    obtain ⟨k, hbk, hk, rfl, hno⟩ := hrel
    by_cases hlt : k < 64
    · have hck := HO.out.cellAt k (by omega)
      rw [rowB_get _ _ _ hlt] at hck
      generalize hd : T.testBit k = d at *
      have HD := Lib.hid hd
      clear hd
      cases d
      · go_wp2
        go_round
        case rel =>
          refine ⟨k + 1, by omega, by omega, by go_num, Lib.hid (fun j h1 h2 => ?_)⟩
          by_cases hj : j = k
          · rw [hj]; exact HD.out
          · exact hno.out j h1 (by omega)
        case measure => simp [intOf]; omega
      · go_wp2
        go_ret2
        exact ⟨rfl, hb1⟩
    · have : k = 64 := by omega
      subst this
      exact absurd (HB.out hno.out) id

set_option maxHeartbeats 1600000 in
theorem docSet_yes (N a b T : Nat) (hN : N ≤ 18446744073709551615) (hT : T ≤ 18446744073709551615) (h : a + b ≤ 64) (hb : T < 2 ^ b) (w : World) :
    Calls Try.prog 20 #[.int .u64 N, .int .i64 a, .int .i64 b, .int .u64 T] w fun e w' => e = .returned (.tuple #[.int .u64 (setN N a b T : Nat), .int .i64 0]) ∧ Below w.heap.size w w' := by
  have hf := Lib.hid (field_yes a b (by unfold FieldOk; omega))
  have hs := Lib.hid (split_own T 64 hT (by decide) (by decide))
  have hs2 := Lib.hid (split_own N 64 hN (by decide) (by decide))
  have HB := Lib.hid (fun i => small_bit T b i hb)
  clear hb hT hN
  go_enter Try.func20, Try.ntmps20
  go_wp2_with (go_at_call 40; refine (hf.out _).mono ?_; rintro e w' ⟨rfl, rfl⟩)
  refine (hs.out _).mono ?_
  rintro e w1 ⟨g, cap, rfl, hown, hc1, hc2, hb1⟩
  have hg := (hown.lt g rfl).2
  have HO := Lib.hid hown
  clear hown hc1 hc2
  go_wp2
  go_loop [11] (fun i => ∃ k : Nat, b ≤ k ∧ k ≤ 64 ∧ i = .int .i64 k) (fun i => 64 - (intOf i).toNat)
  case atStart => exact ⟨b, Nat.le_refl _, by omega, rfl⟩
  case round =>
    obtain ⟨k, hbk, hk, rfl⟩ := hrel
    by_cases hlt : k < 64
    · have hck := HO.out.cellAt k (by omega)
      rw [rowB_get _ _ _ hlt, HB.out k hbk] at hck
      go_wp2
      go_round
      case rel => exact ⟨k + 1, by omega, by omega, by go_num⟩
      case measure => simp [intOf]; omega
    · have : k = 64 := by omega
      subst this
      go_wp2_with fail
      refine (hs2.out _).mono ?_
      rintro e w2 ⟨g2, cap2, rfl, hown2, hc3, hc4, hb2⟩
      have hg2 := hown2.lt g2 rfl
      have e0 : rowB N.testBit 64 = rowB (setF N a 0 T) 64 := rowB_congr _ _ _ (by intro q _; unfold setF; rw [if_neg (by omega)])
      rw [e0] at hown2
      have HO2 := Lib.hid hown2
      clear hown2 e0
      go_wp2
      go_loopw [13] (fun i wr => ∃ k : Nat, k ≤ b ∧ i = .int .i64 k ∧ wr.ownsRow w1.heap.size 4 1 (.slice (some ⟨g2, 0, none⟩) 64 cap2) 64 (rowB (setF N a k T) 64) ∧ Below w1.heap.size w1 wr)
        (fun i _ => b - (intOf i).toNat)
      case atStart => exact ⟨0, Nat.zero_le _, rfl, HO2.out, hb2⟩
      case round =>
        obtain ⟨k, hk, rfl, hown, hnx⟩ := hrel
        by_cases hlt : k < b
        · have hck : wr.cell? ⟨g, k, none⟩ = some (.bool (T.testBit k)) := by
            rw [hnx.cell (by exact hg), HO.out.cellAt k (by omega), rowB_get _ _ _ (by omega)]
          have hco := hown.cellAt (a + k) (by omega)
          rw [rowB_get _ _ _ (by omega)] at hco
          have hcf := hown.frozenAt (a + k)
          obtain ⟨hst, hgr⟩ := hown.stored (a + k) (.bool (T.testBit k))
          rw [rowB_set _ (setF N a (k + 1) T) 64 (a + k) _ (by unfold setF; rw [if_pos (by omega), show a + k - a = k by omega]) (by
            intro q _ hq
            unfold setF
            by_cases h1 : a ≤ q ∧ q < a + k
            · rw [if_pos h1, if_pos (by omega)]
            · rw [if_neg h1, if_neg (by omega)])] at hst
          have HST := Lib.hid hst
          have hb4 := hnx.setCell (p := ⟨g2, a + k, none⟩) hg2.1 (.bool (T.testBit k))
          have hne : ¬ g = g2 := by omega
          generalize T.testBit k = d at *
          generalize setF N a k T (a + k) = d2 at *
          clear hst hgr hown
          go_wp2
          go_roundw
          case rel => exact ⟨k + 1, by omega, by go_num, HST.out, hb4⟩
          case measure => simp [intOf]; omega
        · have : k = b := by omega
          subst this
          have hw := Lib.hid (whole_any _ _ wr (by simp [listB]) ((rowB_bools hown).reads (by simp [listB])))
          clear hown
          go_wp2_with (go_at_call 41; refine (hw.out).mono ?_; rintro e w' ⟨rfl, rfl⟩)
          go_ret2
          exact ⟨rfl, hb1.trans (hnx.mono hb1.size)⟩
end Go.Proofs.Ytdoaepopkdeonaa
