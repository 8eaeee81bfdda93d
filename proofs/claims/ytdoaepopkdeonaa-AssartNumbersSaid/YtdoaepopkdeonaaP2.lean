/-
  Conv: plain laws: the bits of what is wrapped, moved up, moved down.
-/
import Derived.Test.YtdoaepopkdeonaaB3
namespace Go.Proofs.Ytdoaepopkdeonaa
set_option linter.unusedVariables false
set_option linter.unusedSimpArgs false
open Go.RowKit

theorem U_nat (N : Nat) : U (N : Int) = N % 18446744073709551616 := by unfold U; omega
theorem U_tell (kind : Int) (b N : Nat) (hb : 1 ≤ b) (hb2 : b ≤ 64) (hN : N < 2 ^ b) : U (tellK kind b N) % 2 ^ b = N := by
  have h64 : (2 : Nat) ^ 64 = 2 ^ b * 2 ^ (64 - b) := by rw [← Nat.pow_add]; congr 1; omega
  have hle : 2 ^ b ≤ 2 ^ 64 := Nat.pow_le_pow_right (by decide) hb2
  unfold tellK
  split
  · have e : ((N : Int) - 2 ^ b) % 18446744073709551616 = ((N + 2 ^ 64 - 2 ^ b : Nat) : Int) := by
      have : ((2 : Int) ^ b) = ((2 ^ b : Nat) : Int) := by simp
      rw [this]
      omega
    unfold U
    rw [e, Int.toNat_natCast, h64]
    have h1 : 1 ≤ 2 ^ (64 - b) := Nat.one_le_two_pow
    obtain ⟨q, hq⟩ : ∃ q, 2 ^ (64 - b) = q + 1 := ⟨2 ^ (64 - b) - 1, by omega⟩
    rw [hq, Nat.mul_succ, show N + (2 ^ b * q + 2 ^ b) - 2 ^ b = N + 2 ^ b * q by omega, Nat.add_mul_mod_self_left, Nat.mod_eq_of_lt hN]
  · rw [U_wrap64, U_nat]
    rw [show (18446744073709551616 : Nat) = 2 ^ 64 from rfl, Nat.mod_eq_of_lt (Nat.lt_of_lt_of_le hN hle), Nat.mod_eq_of_lt hN]

theorem wd_pos (kind : Int) : 1 ≤ wd kind := by have := wd_bd kind; omega
theorem wrapK_tell (kind : Int) (N : Nat) (hN : N < 2 ^ wd kind) : wrapK kind (tellK kind (wd kind) N) = tellK kind (wd kind) N := by
  show tellK kind (wd kind) (U (tellK kind (wd kind) N) % 2 ^ wd kind) = _
  rw [U_tell kind _ N (wd_pos kind) (wd_bd kind).2 hN]
theorem U_wrapK_mod (kind n : Int) : U (wrapK kind n) % 2 ^ wd kind = U n % 2 ^ wd kind := by
  unfold wrapK
  rw [U_tell kind _ _ (wd_pos kind) (wd_bd kind).2 (Nat.mod_lt _ (Nat.two_pow_pos _))]
theorem wrapK_bit (kind n : Int) (i : Nat) (hi : i < wd kind) : (U (wrapK kind n)).testBit i = (U n).testBit i := by
  have h := congrArg (fun x => x.testBit i) (U_wrapK_mod kind n)
  simpa [Nat.testBit_mod_two_pow, hi] using h
theorem wrapK_congr (kind x y : Int) (h : ∀ i, i < wd kind → (U x).testBit i = (U y).testBit i) : wrapK kind x = wrapK kind y := by
  unfold wrapK
  congr 1
  apply Nat.eq_of_testBit_eq
  intro i
  rw [Nat.testBit_mod_two_pow, Nat.testBit_mod_two_pow]
  by_cases hi : i < wd kind
  · rw [h i hi]
  · simp [hi]
theorem wrapK_wrapK (kind n : Int) : wrapK kind (wrapK kind n) = wrapK kind n := wrapK_tell kind _ (Nat.mod_lt _ (Nat.two_pow_pos _))
theorem wrapK_wrap64 (kind n : Int) : wrapK kind (wrap64 n) = wrapK kind n := by unfold wrapK; rw [U_wrap64]

theorem left_bit (n : Int) (m i : Nat) (h64 : i < 64) : (U (n * 2 ^ min m 64)).testBit i = leftF (U n) m i := by
  rw [show ((2 : Int) ^ min m 64) = ((2 ^ min m 64 : Nat) : Int) by simp, U_mul, show (18446744073709551616 : Nat) = 2 ^ 64 from rfl, Nat.testBit_mod_two_pow]
  rw [← Nat.shiftLeft_eq, Nat.testBit_shiftLeft]
  simp only [leftF, h64, decide_true, Bool.true_and]
  by_cases hm : m ≤ 64
  · rw [Nat.min_eq_left hm]
  · have h1 : ¬ m ≤ i := by omega
    have h2 : ¬ min m 64 ≤ i := by omega
    simp [h1]; omega

/-- The answer of Left. -/
def leftK (kind n : Int) (m : Nat) : Int := wrapK kind (wrap64 (n * 2 ^ min m 64))
theorem leftK_bit (kind n : Int) (m i : Nat) (hi : i < wd kind) : (U (leftK kind n m)).testBit i = leftF (U n) m i := by
  unfold leftK
  have := wd_bd kind
  rw [wrapK_bit kind _ i hi, U_wrap64, left_bit n m i (by omega)]
theorem leftK_wrap (kind n : Int) (m : Nat) : wrapK kind (leftK kind n m) = leftK kind n m := wrapK_wrapK _ _
theorem inK_congr (kind x y : Int) (hx : wrapK kind x = x) (hy : wrapK kind y = y) (h : ∀ i, i < wd kind → (U x).testBit i = (U y).testBit i) : x = y := by
  rw [← hx, ← hy]; exact wrapK_congr kind x y h

theorem left_left (kind n : Int) (m : Nat) : leftK kind (leftK kind n m) 1 = leftK kind n (m + 1) := by
  refine inK_congr kind _ _ (leftK_wrap _ _ _) (leftK_wrap _ _ _) fun i hi => ?_
  rw [leftK_bit _ _ _ _ hi, leftK_bit _ _ _ _ hi]
  unfold leftF
  by_cases h1 : 1 ≤ i
  · rw [leftK_bit _ _ _ _ (by omega)]
    unfold leftF
    have : i - 1 - m = i - (m + 1) := by omega
    by_cases h2 : m ≤ i - 1
    · simp [h1, h2, this]; omega
    · have h3 : ¬ m + 1 ≤ i := by omega
      simp [h2, h3]
  · have h3 : ¬ m + 1 ≤ i := by omega
    simp [h1, h3]
theorem double (kind n : Int) : leftK kind n 1 = wrapK kind (wrap64 (wrapK kind n + wrapK kind n)) := by
  have e : wrapK kind (wrap64 (wrapK kind n + wrapK kind n)) = leftK kind (wrapK kind n) 1 := by
    unfold leftK
    rw [show wrapK kind n + wrapK kind n = wrapK kind n * 2 ^ min 1 64 by simp; omega]
  rw [e]
  refine inK_congr kind _ _ (leftK_wrap _ _ _) (leftK_wrap _ _ _) fun i hi => ?_
  rw [leftK_bit _ _ _ _ hi, leftK_bit _ _ _ _ hi]
  unfold leftF
  rw [wrapK_bit _ _ _ (by omega)]
theorem left_zero (kind n : Int) (h : wrapK kind n = n) : leftK kind n 0 = n := by
  refine inK_congr kind _ _ (leftK_wrap _ _ _) h fun i hi => ?_
  rw [leftK_bit _ _ _ _ hi]
  simp [leftF]

theorem rightK_tell (kind n : Int) (m : Nat) (h0 : 0 ≤ kind) (h7 : kind ≤ 7) : wrapK kind (rightK kind n m) = rightK kind n m := by
  rw [← law_right kind n m h0 h7]
  refine wrapK_tell kind _ ?_
  have := wholeN_lt (listB (rightF kind (U n) (wd kind) m) (wd kind))
  simpa [listB] using this
theorem rightK_bit (kind n : Int) (m i : Nat) (h0 : 0 ≤ kind) (h7 : kind ≤ 7) (hi : i < wd kind) : (U (rightK kind n m)).testBit i = rightF kind (U n) (wd kind) m i := by
  have hl : wholeN (listB (rightF kind (U n) (wd kind) m) (wd kind)) < 2 ^ wd kind := by
    have := wholeN_lt (listB (rightF kind (U n) (wd kind) m) (wd kind))
    simpa [listB] using this
  have h := congrArg (fun x => x.testBit i) (U_tell kind _ _ (wd_pos kind) (wd_bd kind).2 hl)
  rw [law_right kind n m h0 h7] at h
  simpa [Nat.testBit_mod_two_pow, hi, listB_testBit] using h
theorem right_right (kind n : Int) (m : Nat) (h0 : 0 ≤ kind) (h7 : kind ≤ 7) : rightK kind (rightK kind n m) 1 = rightK kind n (m + 1) := by
  refine inK_congr kind _ _ (rightK_tell _ _ _ h0 h7) (rightK_tell _ _ _ h0 h7) fun i hi => ?_
  have hwd := wd_bd kind
  rw [rightK_bit _ _ _ _ h0 h7 hi, rightK_bit _ _ _ _ h0 h7 hi]
  unfold rightF
  by_cases h1 : i + 1 < wd kind
  · rw [if_pos ⟨by omega, h1⟩, rightK_bit _ _ _ _ h0 h7 h1]
    unfold rightF
    by_cases h2 : m < wd kind ∧ i + 1 + m < wd kind
    · rw [if_pos h2, if_pos ⟨by omega, by omega⟩, show i + 1 + m = i + (m + 1) by omega]
    · rw [if_neg h2, if_neg (by omega)]
  · rw [if_neg (by omega), if_neg (by omega), rightK_bit _ _ _ _ h0 h7 (by omega)]
    unfold rightF
    by_cases h2 : m = 0
    · rw [if_pos ⟨by omega, by omega⟩, h2]; simp
    · rw [if_neg (by omega)]
      cases decide (kind < 4) <;> simp
end Go.Proofs.Ytdoaepopkdeonaa
