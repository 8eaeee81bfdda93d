/-
  Conv: fields of bits: contracts of DocGet, DocSet.
-/
import Derived.Test.YtdoaepopkdeonaaC1
namespace Go.Proofs.Ytdoaepopkdeonaa
set_option linter.unusedVariables false
set_option linter.unusedSimpArgs false
open Go.RowKit

theorem split_own (N : Nat) (b : Nat) (hN : N ≤ 18446744073709551615) (hb : b ≤ 64) (h0 : 1 ≤ b) (w : World) :
    Calls Try.prog 38 #[.int .u64 N, .int .i64 b] w fun e w' => ∃ g cap, e = .returned (.slice (some ⟨g, 0, none⟩) b cap) ∧
      w'.ownsRow w.heap.size 4 1 (.slice (some ⟨g, 0, none⟩) b cap) b (rowB N.testBit b) ∧ b ≤ cap ∧ cap ≤ maxLen ∧ Below w.heap.size w w' := by
  refine (split_any N b hN hb w).mono fun e w' ⟨v, he, hv, hw⟩ => ?_
  have hr : (bitsOf N b).map Value.bool = rowB N.testBit b := by unfold bitsOf rowB; rw [List.map_map]; rfl
  unfold Bools at hv
  rw [bitsOf_len, hr] at hv
  have hv' := hv
  rcases hv.2 with ⟨rfl, hn⟩ | ⟨g, cap, cur, rfl, hB, hh, hle, hm, hs, ht⟩
  · omega
  · exact ⟨g, cap, he, hv', hle, hm, hw⟩

theorem get_whole (N a b : Nat) (hN : N ≤ 18446744073709551615) (h : a + b ≤ 64) : wholeN (listB (fun i => N.testBit (a + i)) b) = getN N a b := by
  unfold getN
  rw [← whole_eq (fun i => N.testBit (a + i)) b (N / 2 ^ a)]
  intro i hi
  rw [← Nat.shiftRight_eq_div_pow, Nat.testBit_shiftRight]

set_option maxHeartbeats 800000 in
theorem docGet_yes (N a b : Nat) (hN : N ≤ 18446744073709551615) (h : a + b ≤ 64) (w : World) :
    Calls Try.prog 18 #[.int .u64 N, .int .i64 a, .int .i64 b] w fun e w' => e = .returned (.tuple #[.int .u64 (getN N a b : Nat), .int .i64 0]) ∧ Below w.heap.size w w' := by
  have hf := Lib.hid (field_yes a b (by unfold FieldOk; omega))
  have hs := Lib.hid (split_own N 64 hN (by decide) (by decide))
  have HG := Lib.hid (get_whole N a b hN h)
  clear hN
  by_cases hb0 : b = 0
  · subst hb0
    rw [show getN N a 0 = 0 by simp [getN, Nat.mod_one]]
    go_enter Try.func18, Try.ntmps18
    go_wp2_with (go_at_call 40; refine (hf.out _).mono ?_; rintro e w' ⟨rfl, rfl⟩)
    refine (hs.out _).mono ?_
    rintro e w1 ⟨g, cap, rfl, hown, hc1, hc2, hb1⟩
    unfold maxLen at hc2
    go_wp2_with (go_at_call 41; refine (whole_nil _ _ _).mono ?_; rintro e w' ⟨rfl, rfl⟩)
    all_goals go_ret2
    all_goals exact ⟨rfl, hb1⟩
  · have hlt : a < 64 := by omega
    go_enter Try.func18, Try.ntmps18
    go_wp2_with (go_at_call 40; refine (hf.out _).mono ?_; rintro e w' ⟨rfl, rfl⟩)
    refine (hs.out _).mono ?_
    rintro e w1 ⟨g, cap, rfl, hown, hc1, hc2, hb1⟩
    unfold maxLen at hc2
    have hr : ∀ c, Reads w1 (.slice (some ⟨g, a, none⟩) b c) (listB (fun i => N.testBit (a + i)) b) := by
      intro c
      have hg := hown.lt g rfl
      refine ⟨g, a, c, by simp [listB], hg.2, fun j hj => ?_⟩
      have hj' : j < b := by simpa [listB] using hj
      rw [hown.cellAt (a + j) (by omega), rowB_get _ _ _ (by omega)]
      simp [listB, hj']
    have hw := Lib.hid (fun c => whole_any _ _ w1 (by simp [listB]; omega) (hr c))
    rw [HG.out] at hw
    clear hr hown
    have hc3 : a < cap := by omega
    have hc4 : a + b ≤ cap := by omega
    go_wp2_with (go_at_call 41; refine (hw.out _).mono ?_; rintro e w' ⟨rfl, rfl⟩)
    all_goals go_ret2
    all_goals exact ⟨rfl, hb1⟩
theorem docGet_no (N : Nat) (a b : Int) (h : ¬ FieldOk a b) (w : World) :
    Calls Try.prog 18 #[.int .u64 N, .int .i64 a, .int .i64 b] w fun e w' => e = .returned (.tuple #[.int .u64 0, .int .i64 1]) ∧ Below w.heap.size w w' := by
  have hf := Lib.hid (field_no a b h)
  clear h
  go_enter Try.func18, Try.ntmps18
  go_wp2_with (go_at_call 40; refine (hf.out _).mono ?_; rintro e w' ⟨rfl, rfl⟩)
  go_ret2
  exact ⟨rfl, Below.refl _ _⟩
end Go.Proofs.Ytdoaepopkdeonaa
