/-
  Conv: plain laws: what the references compute is what the program computes (Left, Right).
-/
import Derived.Test.YtdoaepopkdeonaaB2
namespace Go.Proofs.Ytdoaepopkdeonaa
set_option linter.unusedVariables false
set_option linter.unusedSimpArgs false
open Go.RowKit

theorem listB_testBit (f : Nat → Bool) (b i : Nat) : (wholeN (listB f b)).testBit i = (decide (i < b) && f i) := by
  rw [wholeN_testBit]
  by_cases h : i < b <;> simp [listB, h]
theorem whole_eq (f : Nat → Bool) (b N : Nat) (h : ∀ i, i < b → f i = N.testBit i) : wholeN (listB f b) = N % 2 ^ b := by
  apply Nat.eq_of_testBit_eq
  intro i
  rw [listB_testBit, Nat.testBit_mod_two_pow]
  by_cases hi : i < b
  · simp [hi, h i hi]
  · simp [hi]

theorem U_wrap64 (n : Int) : U (wrap64 n) = U n := by unfold U wrap64; omega
theorem U_mul (n : Int) (k : Nat) : U (n * (k : Int)) = U n * k % 18446744073709551616 := by
  unfold U
  have h0 : 0 ≤ n % 18446744073709551616 := Int.emod_nonneg _ (by decide)
  obtain ⟨r, hr⟩ := Int.eq_ofNat_of_zero_le h0
  rw [Int.mul_emod, hr, Int.toNat_natCast]
  have : ((r : Int) * ((k : Int) % 18446744073709551616)) % 18446744073709551616 = ((r * k % 18446744073709551616 : Nat) : Int) := by
    have h2 : ((k : Int) % 18446744073709551616) = ((k % 18446744073709551616 : Nat) : Int) := by omega
    rw [h2, ← Int.natCast_mul]
    have h3 : (18446744073709551616 : Int) = ((18446744073709551616 : Nat) : Int) := rfl
    rw [h3, ← Int.natCast_emod, Nat.mul_mod_mod]
  rw [this, Int.toNat_natCast]

theorem tell_eq (kind x : Int) (f : Nat → Bool) (h : ∀ i, i < wd kind → f i = (U x).testBit i) : tellK kind (wd kind) (wholeN (listB f (wd kind))) = wrapK kind x := by
  unfold wrapK
  rw [whole_eq f (wd kind) (U x) h]

theorem law_left (kind n : Int) (m : Nat) :
    tellK kind (wd kind) (wholeN (listB (leftF (U n) m) (wd kind))) = wrapK kind (wrap64 (n * 2 ^ min m 64)) := by
  apply tell_eq
  intro i hi
  have hwd := wd_bd kind
  rw [U_wrap64, show ((2 : Int) ^ min m 64) = ((2 ^ min m 64 : Nat) : Int) by simp, U_mul, show (18446744073709551616 : Nat) = 2 ^ 64 from rfl, Nat.testBit_mod_two_pow]
  rw [← Nat.shiftLeft_eq, Nat.testBit_shiftLeft]
  have h64 : i < 64 := by omega
  simp only [leftF, h64, decide_true, Bool.true_and]
  by_cases hm : m ≤ 64
  · rw [Nat.min_eq_left hm]
  · have h1 : ¬ m ≤ i := by omega
    have h2 : ¬ min m 64 ≤ i := by omega
    simp [h1]; omega

theorem U_lt (n : Int) : U n < 2 ^ 64 := by have := U_le n; omega

theorem tell_signed (kind : Int) (b N : Nat) (h4 : kind < 4) (hb : 1 ≤ b) (hb2 : b ≤ 64) (hN : N < 2 ^ b) : tellK kind b N = (BitVec.ofNat b N).toInt := by
  rw [BitVec.toInt_eq_toNat_cond, BitVec.toNat_ofNat, Nat.mod_eq_of_lt hN]
  have hp : 2 ^ b = 2 * 2 ^ (b - 1) := by rw [← Nat.pow_succ']; congr 1; omega
  have hp2 : 2 ^ (b - 1) ≤ 2 ^ 63 := Nat.pow_le_pow_right (by decide) (by omega)
  unfold tellK
  by_cases h : 2 ^ (b - 1) ≤ N
  · rw [if_pos ⟨h4, h⟩, if_neg (by omega)]
    simp
  · rw [if_neg (fun h' => h h'.2), if_pos (by omega)]
    unfold wrap64; omega

theorem tell_unsigned (kind : Int) (b N : Nat) (h4 : ¬ kind < 4) (hb2 : b ≤ 32) (hN : N < 2 ^ b) : tellK kind b N = N := by
  unfold tellK
  rw [if_neg (fun h => h4 h.1)]
  have hp2 : 2 ^ b ≤ 2 ^ 32 := Nat.pow_le_pow_right (by decide) hb2
  unfold wrap64; omega

theorem U_wrapK (kind n : Int) (h : kind = 3 ∨ kind = 7) : U (wrapK kind n) = U n := by
  have hU := U_lt n
  have e : wrapK kind n = wrap64 (U n) := by
    have e64 : ∀ q : Nat, q < 2 ^ 64 → (if (3 : Int) < 4 ∧ 2 ^ (64 - 1) ≤ q then (q : Int) - 2 ^ 64 else wrap64 q) = wrap64 q := by
      intro q hq
      split
      · unfold wrap64; omega
      · rfl
    rcases h with rfl | rfl
    · unfold wrapK tellK
      rw [show wd 3 = 64 from rfl, Nat.mod_eq_of_lt hU]
      exact e64 _ hU
    · unfold wrapK tellK
      rw [show wd 7 = 64 from rfl, Nat.mod_eq_of_lt hU, if_neg (fun h => absurd h.1 (by decide))]
  rw [e, U_wrap64]
  unfold U at *
  omega

theorem law_right (kind n : Int) (m : Nat) (h0 : 0 ≤ kind) (h7 : kind ≤ 7) :
    tellK kind (wd kind) (wholeN (listB (rightF kind (U n) (wd kind) m) (wd kind))) = rightK kind n m := by
  have hwd := wd_bd kind
  have hNlt : wholeN (listB (rightF kind (U n) (wd kind) m) (wd kind)) < 2 ^ wd kind := by
    have := wholeN_lt (listB (rightF kind (U n) (wd kind) m) (wd kind))
    simpa [listB] using this
  have hMlt : U n % 2 ^ wd kind < 2 ^ wd kind := Nat.mod_lt _ (Nat.two_pow_pos _)
  by_cases h4 : kind < 4
  · have h7' : ¬ kind = 7 := by omega
    unfold rightK
    rw [if_neg h7', tell_signed kind _ _ h4 (by omega) hwd.2 hNlt]
    unfold wrapK
    rw [tell_signed kind _ _ h4 (by omega) hwd.2 hMlt, show ((2 : Int) ^ min m 64) = ((2 ^ min m 64 : Nat) : Int) by simp, ← Int.shiftRight_eq_div_pow, ← BitVec.toInt_sshiftRight]
    congr 1
    apply BitVec.eq_of_getLsbD_eq
    intro i hi
    rw [BitVec.getLsbD_ofNat, BitVec.getLsbD_sshiftRight, listB_testBit, BitVec.getLsbD_ofNat, BitVec.msb_eq_getLsbD_last, BitVec.getLsbD_ofNat, Nat.testBit_mod_two_pow, Nat.testBit_mod_two_pow]
    generalize wd kind = b at *
    have hb1 : b - 1 < b := by omega
    simp only [hi, hb1, decide_true, Bool.true_and, rightF, h4]
    by_cases hc : m < b ∧ i + m < b
    · have h1 : min m 64 = m := by omega
      rw [if_pos hc, h1]
      simp [show m + i < b by omega, show ¬ b ≤ i by omega, Nat.add_comm]
    · rw [if_neg hc]
      have h1 : ¬ (min m 64 + i < b) := by omega
      simp [h1, show ¬ b ≤ i by omega]
  · by_cases h7' : kind = 7
    · subst h7'
      unfold rightK
      rw [if_pos rfl]
      have hU := U_lt n
      rw [U_wrap, U_wrapK 7 n (.inr rfl)]
      have e2 : wholeN (listB (rightF 7 (U n) (wd 7) m) (wd 7)) = U n / 2 ^ min m 64 := by
        have hl : U n / 2 ^ min m 64 < 2 ^ 64 := Nat.lt_of_le_of_lt (Nat.div_le_self _ _) hU
        rw [show wd 7 = 64 from rfl]
        rw [whole_eq _ 64 (U n / 2 ^ min m 64), Nat.mod_eq_of_lt hl]
        intro i hi
        rw [← Nat.shiftRight_eq_div_pow, Nat.testBit_shiftRight]
        unfold rightF
        by_cases hc : m < 64 ∧ i + m < 64
        · rw [if_pos hc, show min m 64 = m by omega, Nat.add_comm]
        · rw [if_neg hc]
          have : 2 ^ 64 ≤ 2 ^ (min m 64 + i) := Nat.pow_le_pow_right (by decide) (by omega)
          rw [Nat.testBit_lt_two_pow (Nat.lt_of_lt_of_le hU this)]
          simp
      rw [e2]
      unfold tellK
      rw [if_neg (fun h => h4 h.1)]
      simp
    · have hb32 : wd kind ≤ 32 := by
        have : kind = 4 ∨ kind = 5 ∨ kind = 6 := by omega
        rcases this with rfl | rfl | rfl <;> decide
      unfold rightK wrapK
      rw [if_neg h7', tell_unsigned kind _ _ h4 hb32 hNlt, tell_unsigned kind _ _ h4 hb32 hMlt]
      have e2 : wholeN (listB (rightF kind (U n) (wd kind) m) (wd kind)) = U n % 2 ^ wd kind / 2 ^ min m 64 := by
        have hl : U n % 2 ^ wd kind / 2 ^ min m 64 < 2 ^ wd kind := Nat.lt_of_le_of_lt (Nat.div_le_self _ _) hMlt
        rw [whole_eq _ (wd kind) (U n % 2 ^ wd kind / 2 ^ min m 64), Nat.mod_eq_of_lt hl]
        intro i hi
        rw [← Nat.shiftRight_eq_div_pow, Nat.testBit_shiftRight, Nat.testBit_mod_two_pow]
        unfold rightF
        generalize wd kind = b at *
        by_cases hc : m < b ∧ i + m < b
        · rw [if_pos hc, show min m 64 = m by omega, Nat.add_comm]
          simp [hc.2]; omega
        · rw [if_neg hc]
          have h1 : ¬ (min m 64 + i < b) := by omega
          simp [h1, h4]
      rw [e2]
      simp
end Go.Proofs.Ytdoaepopkdeonaa
