/-
  Conv: what ConvPieces calls; plain laws of pieces.
-/
import Derived.Test.YtdoaepopkdeonaaC4
import Derived.Deep.QuietTactic
import Derived.BigQuiet
namespace Go.Proofs.Ytdoaepopkdeonaa
set_option linter.unusedVariables false
set_option linter.unusedSimpArgs false
open Go.RowKit

theorem below_drawn {B : Nat} {a w : World} (h : Below B a w) (n : Nat) : Below B a (w.drewN n) := ⟨h.os, h.tape, h.output, h.size, h.block⟩
/-- A callee that leaves the world alone, in a region behind other draws. -/
theorem quiet_behind {P : Program} {f : FuncId} {args : Array Value} {w : World} {k n : Nat} {v : Value}
    (h : Calls P f args (w.drewN (k + n)) fun e w' => e = .returned v ∧ w' = w.drewN (k + n)) :
    Calls P f args (w.drewN (k + n)) fun e w'' => e = .returned v ∧ ∃ m, w'' = w.drewN (k + m) :=
  h.mono fun _ _ ⟨he, hw⟩ => ⟨he, n, hw⟩

theorem up_step (N c d : Nat) (hN : N ≤ 18446744073709551615) (h : c + d ≤ 64) : setN (N % 2 ^ c) c d (getN N c d) = N % 2 ^ (c + d) := by
  apply Nat.eq_of_testBit_eq
  intro i
  rw [setN_bit, Nat.testBit_mod_two_pow]
  unfold setF
  by_cases hi : i < 64
  · by_cases h1 : c ≤ i ∧ i < c + d
    · rw [if_pos h1, getN_bit, show c + (i - c) = i by omega]; simp [hi, h1.2]; omega
    · rw [if_neg h1, Nat.testBit_mod_two_pow]
      by_cases h2 : i < c
      · simp [hi, h2, show i < c + d by omega]
      · simp [hi, h2, show ¬ i < c + d by omega]
  · simp [hi, show ¬ i < c + d by omega]
/-- The bits from c on. -/
def highN (N c : Nat) : Nat := N / 2 ^ c * 2 ^ c
theorem highN_bit (N c i : Nat) : (highN N c).testBit i = (decide (c ≤ i) && N.testBit i) := by
  unfold highN
  rw [← Nat.shiftLeft_eq, Nat.testBit_shiftLeft, ← Nat.shiftRight_eq_div_pow, Nat.testBit_shiftRight]
  by_cases h : c ≤ i
  · rw [show c + (i - c) = i by omega]
  · simp [h]
theorem down_step (N c d : Nat) (hN : N ≤ 18446744073709551615) (h : c + d ≤ 64) : setN (highN N (c + d)) c d (getN N c d) = highN N c := by
  apply Nat.eq_of_testBit_eq
  intro i
  rw [setN_bit, highN_bit]
  unfold setF
  by_cases hi : i < 64
  · by_cases h1 : c ≤ i ∧ i < c + d
    · rw [if_pos h1, getN_bit, show c + (i - c) = i by omega]; simp [hi, h1.1]; omega
    · rw [if_neg h1, highN_bit]
      by_cases h2 : c ≤ i
      · simp [hi, h2, show c + d ≤ i by omega]
      · simp [hi, h2, show ¬ c + d ≤ i by omega]
  · have : N.testBit i = false := Nat.testBit_lt_two_pow (Nat.lt_of_lt_of_le (show N < 2 ^ 64 by omega) (Nat.pow_le_pow_right (by decide) (by omega)))
    rw [this]; simp [hi]

theorem up_set (N c d : Nat) (hN : N ≤ 18446744073709551615) (h : c + d ≤ 64) (w : World) :
    Calls Try.prog 21 #[.int .u64 (N % 2 ^ c : Nat), .int .i64 c, .int .i64 d, .int .u64 (getN N c d : Nat)] w fun e w' => e = .returned (.tuple #[.int .u64 (N % 2 ^ (c + d) : Nat), .int .i64 0]) ∧ w' = w := by
  have := set_yes (N % 2 ^ c) c d (getN N c d) (Nat.le_trans (Nat.mod_le _ _) hN) (getN_le _ _ _ hN) h (getN_lt _ _ _) w
  rw [up_step N c d hN h] at this
  exact this.mono fun e w' ⟨h1, h2⟩ => ⟨h1, h2.symm⟩
theorem down_set (N c d : Nat) (hN : N ≤ 18446744073709551615) (h : c + d ≤ 64) (w : World) :
    Calls Try.prog 21 #[.int .u64 (highN N (c + d) : Nat), .int .i64 c, .int .i64 d, .int .u64 (getN N c d : Nat)] w fun e w' => e = .returned (.tuple #[.int .u64 (highN N c : Nat), .int .i64 0]) ∧ w' = w := by
  have hl : highN N (c + d) ≤ 18446744073709551615 := Nat.le_trans (Nat.div_mul_le_self _ _) hN
  have := set_yes (highN N (c + d)) c d (getN N c d) hl (getN_le _ _ _ hN) h (getN_lt _ _ _) w
  rw [down_step N c d hN h] at this
  exact this.mono fun e w' ⟨h1, h2⟩ => ⟨h1, h2.symm⟩
theorem get_piece (N c d : Nat) (hN : N ≤ 18446744073709551615) (h : c + d ≤ 64) (w : World) :
    Calls Try.prog 19 #[.int .u64 N, .int .i64 c, .int .i64 d] w fun e w' => e = .returned (.tuple #[.int .u64 (getN N c d : Nat), .int .i64 0]) ∧ w' = w :=
  (get_yes N c d hN h w).mono fun e w' ⟨h1, h2⟩ => ⟨h1, h2.symm⟩

def Get' (N a b r : Int) : Prop := ∀ w, Calls Try.prog 19 #[.int .u64 N, .int .i64 a, .int .i64 b] w fun en w' => en = .returned (.tuple #[.int .u64 r, .int .i64 0]) ∧ w' = w
def Set' (N a b T r : Int) : Prop := ∀ w, Calls Try.prog 21 #[.int .u64 N, .int .i64 a, .int .i64 b, .int .u64 T] w fun en w' => en = .returned (.tuple #[.int .u64 r, .int .i64 0]) ∧ w' = w
theorem Get'.use {N a b r : Int} (h : Get' N a b r) (w : World) : Calls Try.prog 19 #[.int .u64 N, .int .i64 a, .int .i64 b] w fun en w' => en = .returned (.tuple #[.int .u64 r, .int .i64 0]) ∧ w' = w := h w
theorem Set'.use {N a b T r : Int} (h : Set' N a b T r) (w : World) : Calls Try.prog 21 #[.int .u64 N, .int .i64 a, .int .i64 b, .int .u64 T] w fun en w' => en = .returned (.tuple #[.int .u64 r, .int .i64 0]) ∧ w' = w := h w

/-- All that ConvPieces calls. -/
theorem pieces_calls (N : Nat) (one two : Int) (hN : N ≤ 18446744073709551615) (h0 : 0 ≤ one) (h1 : one ≤ two) (h2 : two ≤ 64) :
    ∃ G0 G1 G2 U1 U2 D2 D1 : Int, Get' N 0 one G0 ∧ Get' N one (two - one) G1 ∧ Get' N two (64 - two) G2 ∧
      Set' 0 0 one G0 U1 ∧ Set' U1 one (two - one) G1 U2 ∧ Set' U2 two (64 - two) G2 N ∧
      Set' 0 two (64 - two) G2 D2 ∧ Set' D2 one (two - one) G1 D1 ∧ Set' D1 0 one G0 N := by
  obtain ⟨a, rfl⟩ := Int.eq_ofNat_of_zero_le h0
  obtain ⟨b, rfl⟩ := Int.eq_ofNat_of_zero_le (show 0 ≤ two by omega)
  have e1 : ((b : Int) - a) = ((b - a : Nat) : Int) := by omega
  have e2 : ((64 : Int) - b) = ((64 - b : Nat) : Int) := by omega
  have hN64 : N % 2 ^ 64 = N := Nat.mod_eq_of_lt (by omega)
  have hH64 : highN N 64 = 0 := by unfold highN; rw [Nat.div_eq_of_lt (by omega)]
  have hH0 : highN N 0 = N := by simp [highN]
  rw [e1, e2]
  refine ⟨(getN N 0 a : Nat), (getN N a (b - a) : Nat), (getN N b (64 - b) : Nat), (N % 2 ^ a : Nat), (N % 2 ^ b : Nat), (highN N b : Nat), (highN N a : Nat),
    fun w => get_piece N 0 a hN (by omega) w, fun w => get_piece N a (b - a) hN (by omega) w, fun w => get_piece N b (64 - b) hN (by omega) w, fun w => ?_, fun w => ?_, fun w => ?_, fun w => ?_, fun w => ?_, fun w => ?_⟩
  · have := up_set N 0 a hN (by omega) w
    rwa [Nat.pow_zero, Nat.mod_one, Nat.zero_add] at this
  · have := up_set N a (b - a) hN (by omega) w
    rwa [show a + (b - a) = b by omega] at this
  · have := up_set N b (64 - b) hN (by omega) w
    rwa [show b + (64 - b) = 64 by omega, hN64] at this
  · have := down_set N b (64 - b) hN (by omega) w
    rwa [show b + (64 - b) = 64 by omega, hH64] at this
  · have := down_set N a (b - a) hN (by omega) w
    rwa [show a + (b - a) = b by omega] at this
  · have := down_set N 0 a hN (by omega) w
    rwa [Nat.zero_add, hH0] at this
end Go.Proofs.Ytdoaepopkdeonaa
