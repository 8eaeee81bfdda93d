/-
  Conv: contracts of the rotations and of the program's Turn.
-/
import Derived.Test.YtdoaepopkdeonaaE1
namespace Go.Proofs.Ytdoaepopkdeonaa
set_option linter.unusedVariables false
set_option linter.unusedSimpArgs false
open Go.RowKit

/-- How far, of b places. -/
def sN (m : Int) (b : Nat) : Nat := (m % (b : Int)).toNat
theorem sN_lt (m : Int) (b : Nat) (hb : 1 ≤ b) : sN m b < b := by
  unfold sN; have := Int.emod_lt_of_pos m (show (0 : Int) < b by omega); have := Int.emod_nonneg m (show (b : Int) ≠ 0 by omega); omega
theorem sN_cast (m : Int) (b : Nat) (hb : 1 ≤ b) : ((sN m b : Nat) : Int) = m % (b : Int) := by
  unfold sN; have := Int.emod_nonneg m (show (b : Int) ≠ 0 by omega); omega
theorem sN_tmod (m : Int) (b : Nat) (hb : 1 ≤ b) : sN (m.tmod b) b = sN m b := by
  unfold sN
  congr 1
  rw [Int.tmod_eq_emod]
  split
  · simp
  · have : ((Int.natAbs (b : Int) : Nat) : Int) = b := by omega
    rw [this, Int.sub_emod, Int.emod_emod_of_dvd _ (Int.dvd_refl _), Int.emod_self]; simp
/-- Turned up by s places, of b. -/
def rotN (N b s : Nat) : Nat := (N * 2 ^ s % 2 ^ b) ||| (N / 2 ^ (b - s))
theorem rotN_lt (N b s : Nat) (hN : N < 2 ^ b) : rotN N b s < 2 ^ b :=
  Nat.or_lt_two_pow (Nat.mod_lt _ (Nat.two_pow_pos _)) (Nat.lt_of_le_of_lt (Nat.div_le_self _ _) hN)
theorem rotN_bit (N b s i : Nat) (hN : N < 2 ^ b) (hs : s < b) (hi : i < b) : (rotN N b s).testBit i = N.testBit ((i + b - s) % b) := by
  unfold rotN
  rw [Nat.testBit_or, Nat.testBit_mod_two_pow, ← Nat.shiftLeft_eq, Nat.testBit_shiftLeft, ← Nat.shiftRight_eq_div_pow, Nat.testBit_shiftRight]
  by_cases h : s ≤ i
  · have e : (i + b - s) % b = i - s := by rw [show i + b - s = (i - s) + b by omega, Nat.add_mod_right, Nat.mod_eq_of_lt (by omega)]
    have z : N.testBit (b - s + i) = false := Nat.testBit_lt_two_pow (Nat.lt_of_lt_of_le hN (Nat.pow_le_pow_right (by decide) (by omega)))
    rw [e, z]; simp [h, hi]
  · have e : (i + b - s) % b = b - s + i := by rw [Nat.mod_eq_of_lt (by omega)]; omega
    rw [e]; simp [h]

theorem and_s (m : Int) (j b : Nat) (hb : b = 2 ^ j) (hj : j ≤ 6) : bits .and .u64 (IntKind.u64.wrap m) ((b - 1 : Nat) : Int) = ((sN m b : Nat) : Int) := by
  subst hb
  have hp : 2 ^ j ≤ 2 ^ 6 := Nat.pow_le_pow_right (by decide) hj
  have h1 : 1 ≤ 2 ^ j := Nat.one_le_two_pow
  have hU := U_le m
  rw [U_wrap, bits_and_u64_nat _ _ (by omega) (by omega), Nat.and_two_pow_sub_one_eq_mod]
  unfold sN U
  have h64 : (18446744073709551616 : Int) = ((2 ^ j : Nat) : Int) * ((2 ^ (64 - j) : Nat) : Int) := by
    rw [← Int.natCast_mul, ← Nat.pow_add, show j + (64 - j) = 64 by omega]; rfl
  have h2 : (m % 18446744073709551616) % ((2 ^ j : Nat) : Int) = m % ((2 ^ j : Nat) : Int) := by
    rw [h64]; exact Int.emod_emod_of_dvd _ (Int.dvd_mul_right _ _)
  have h3 := Int.emod_nonneg m (show (18446744073709551616 : Int) ≠ 0 by decide)
  have h4 := Int.emod_nonneg m (show ((2 ^ j : Nat) : Int) ≠ 0 by omega)
  obtain ⟨q, hq⟩ := Int.eq_ofNat_of_zero_le h3
  rw [hq] at h2 ⊢
  rw [Int.toNat_natCast, ← h2, ← Int.natCast_emod, Int.toNat_natCast]

theorem wraps_u8 (n : Int) (h₀ : 0 ≤ n) (h₁ : n < 2 ^ 8) : IntKind.u8.wrap n = n := by rw [IntKind.wrap_u8']; omega
theorem wraps_u16 (n : Int) (h₀ : 0 ≤ n) (h₁ : n < 2 ^ 16) : IntKind.u16.wrap n = n := by rw [IntKind.wrap_u16]; omega
theorem wraps_u32 (n : Int) (h₀ : 0 ≤ n) (h₁ : n < 2 ^ 32) : IntKind.u32.wrap n = n := by simp [IntKind.wrap, IntKind.bits, IntKind.signed]; omega
theorem wraps_u64 (n : Int) (h₀ : 0 ≤ n) (h₁ : n < 2 ^ 64) : IntKind.u64.wrap n = n := by rw [IntKind.wrap_u64]; omega
theorem rot_val (k : IntKind) (b : Nat) (hk : k.bits = b) (hw : ∀ n : Int, 0 ≤ n → n < 2 ^ b → k.wrap n = n) (N s : Nat) (hN : N < 2 ^ b) :
    bits .or k ((N : Int) * 2 ^ s % 2 ^ b) ((N : Int) / 2 ^ (b - s)) = ((rotN N b s : Nat) : Int) := by
  have e1 : ((N : Int) * 2 ^ s % 2 ^ b) = ((N * 2 ^ s % 2 ^ b : Nat) : Int) := by simp
  have e2 : ((N : Int) / 2 ^ (b - s)) = ((N / 2 ^ (b - s) : Nat) : Int) := by simp
  rw [e1, e2, (bits_nat k b (by omega) hw _ _ (Nat.mod_lt _ (Nat.two_pow_pos _)) (Nat.lt_of_le_of_lt (Nat.div_le_self _ _) hN)).2]
  rfl

set_option maxHeartbeats 800000 in
theorem rot8 (N : Nat) (m : Int) (hN : N ≤ 255) (w : World) :
    Calls Try.prog 47 #[.int .u8 N, .int .i64 m] w fun e w' => e = .returned (.int .u8 (rotN N 8 (sN m 8) : Nat)) ∧ w = w' := by
  have h1 := and_s m 3 8 rfl (by decide)
  have h2 := rot_val .u8 8 rfl wraps_u8 N (sN m 8) (by omega)
  have h3 := sN_lt m 8 (by decide)
  generalize rotN N 8 (sN m 8) = R at *
  generalize sN m 8 = s at *
  simp only [Nat.reduceSub, Int.cast_ofNat_Int, Int.reducePow] at h1 h2
  have H2 := Lib.hid h2
  rw [← H2.out]
  clear h2
  go_enter Try.func47, Try.ntmps47
  go_wp2
  go_ret
  exact ⟨rfl, rfl⟩
end Go.Proofs.Ytdoaepopkdeonaa
