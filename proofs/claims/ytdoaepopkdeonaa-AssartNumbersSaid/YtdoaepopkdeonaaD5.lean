/-
  Conv: what ConvSwaps calls, in one bundle.
-/
import Derived.Test.YtdoaepopkdeonaaD4
namespace Go.Proofs.Ytdoaepopkdeonaa
set_option linter.unusedVariables false
set_option linter.unusedSimpArgs false
open Go.RowKit

theorem swapK_wrap (k n : Int) : wrapK k (swapK k n) = swapK k n := wrapK_wrapK _ _
theorem swapK_bit (k n : Int) (i : Nat) (hi : i < wd k) : (U (swapK k n)).testBit i = swapF (U n) (wd k) i := by
  rw [← law_swap]
  have hl : wholeN (listB (swapF (U n) (wd k)) (wd k)) < 2 ^ wd k := by
    have := wholeN_lt (listB (swapF (U n) (wd k)) (wd k))
    simpa [listB] using this
  have h := congrArg (fun x => x.testBit i) (U_tell k _ _ (wd_pos k) (wd_bd k).2 hl)
  simpa [Nat.testBit_mod_two_pow, hi, listB_testBit] using h
theorem swap_swap (k n : Int) : swapK k (swapK k n) = wrapK k n := by
  refine inK_congr k _ _ (swapK_wrap _ _) (wrapK_wrapK _ _) fun i hi => ?_
  obtain ⟨hb, hb2⟩ := wd_bd k
  have h8 := wd_mod k
  rw [swapK_bit _ _ _ hi, wrapK_bit _ _ _ hi]
  unfold swapF
  have hp := swapI_lt (wd k) i hb h8 hi
  rw [swapK_bit _ _ _ hp]
  unfold swapF
  rw [swapI_swapI _ _ hb h8 hi]
theorem swap_ends (k n : Int) : getN (U (swapK k n)) 0 8 = getN (U (wrapK k n)) (wd k - 8) 8 := by
  obtain ⟨hb, hb2⟩ := wd_bd k
  apply Nat.eq_of_testBit_eq
  intro i
  rw [getN_bit, getN_bit]
  by_cases hi : i < 8
  · rw [Nat.zero_add, swapK_bit _ _ _ (by omega), wrapK_bit _ _ _ (by omega)]
    unfold swapF swapI
    rw [show wd k - 8 - i / 8 * 8 + i % 8 = wd k - 8 + i by omega]
  · simp [hi]
theorem cg (n : Int) (a b : Nat) (h : a + b ≤ 64) : CG (IntKind.u64.wrap n) a b (getN (U n) a b : Nat) 0 := fun w => by
  rw [U_wrap]; exact get_yes (U n) a b (U_le n) h w

theorem swaps_calls (k n : Int) (h0 : 0 ≤ k) (h7 : k ≤ 7) (hn : Fits n) : ∃ V W X L : Int, ∃ S : Bool, 8 ≤ V ∧ V ≤ 64 ∧ CB k V S ∧ CW k n W ∧ CP 27 k n X 0 ∧ CP 27 k X W 0 ∧
    CG (IntKind.u64.wrap W) (V - 8) 8 L 0 ∧ CG (IntKind.u64.wrap X) 0 8 L 0 := by
  obtain ⟨hb, hb2⟩ := wd_bd k
  refine ⟨(wd k : Nat), wrapK k n, swapK k n, (getN (U (swapK k n)) 0 8 : Nat), sgnB k, by omega, by omega, fun w => bits_ok k h0 h7 w, cw k n h0 h7 hn, (swap_both k n h0 h7).2, ?_, ?_, cg _ 0 8 (by decide)⟩
  · rw [← swap_swap]; exact (swap_both k _ h0 h7).2
  · rw [swap_ends]
    have := cg (wrapK k n) (wd k - 8) 8 (by omega)
    rwa [show ((wd k - 8 : Nat) : Int) = (wd k : Int) - 8 by omega] at this
end Go.Proofs.Ytdoaepopkdeonaa
