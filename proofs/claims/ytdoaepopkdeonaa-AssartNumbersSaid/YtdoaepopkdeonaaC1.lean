/-
  Conv: fields of bits: contracts of field, in, mask, Get.
-/
import Derived.Test.YtdoaepopkdeonaaB4
namespace Go.Proofs.Ytdoaepopkdeonaa
set_option linter.unusedVariables false
set_option linter.unusedSimpArgs false
open Go.RowKit

def FieldOk (a b : Int) : Prop := 0 ≤ a ∧ 0 ≤ b ∧ a + b ≤ 64

theorem field_yes (a b : Int) (h : FieldOk a b) (w : World) : Calls Try.prog 40 #[.int .i64 a, .int .i64 b] w fun e w' => e = .returned (.bool true) ∧ w = w' := by
  obtain ⟨h1, h2, h3⟩ := h
  have h4 : a ≤ 64 := by omega
  have h5 : b ≤ 64 - a := by omega
  go_enter Try.func40, Try.ntmps40
  go_wp2
  go_ret
  exact ⟨rfl, rfl⟩
theorem field_no (a b : Int) (h : ¬ FieldOk a b) (w : World) : Calls Try.prog 40 #[.int .i64 a, .int .i64 b] w fun e w' => e = .returned (.bool false) ∧ w = w' := by
  by_cases h1 : 0 ≤ a
  · by_cases h2 : 0 ≤ b
    · by_cases h3 : a ≤ 64
      · have h5 : decide (b ≤ 64 - a) = false := by unfold FieldOk at h; simp; omega
        clear h
        go_enter Try.func40, Try.ntmps40
        go_wp2
        go_ret
        exact ⟨rfl, rfl⟩
      · have h5 : decide (a ≤ 64) = false := by simp; omega
        clear h
        go_enter Try.func40, Try.ntmps40
        go_wp2
        go_ret
        exact ⟨rfl, rfl⟩
    · have h5 : decide (0 ≤ b) = false := by simp; omega
      clear h
      go_enter Try.func40, Try.ntmps40
      go_wp2
      go_ret
      exact ⟨rfl, rfl⟩
  · have h5 : decide (0 ≤ a) = false := by simp; omega
    clear h
    go_enter Try.func40, Try.ntmps40
    go_wp2
    go_ret
    exact ⟨rfl, rfl⟩
theorem in_yes (a b : Int) (h : FieldOk a b) (w : World) : Calls Try.prog 42 #[.int .i64 a, .int .i64 b] w fun e w' => e = .returned (.bool true) ∧ w = w' := by
  obtain ⟨h1, h2, h3⟩ := h
  have h4 : a ≤ 64 := by omega
  have h5 : b ≤ 64 - a := by omega
  go_enter Try.func42, Try.ntmps42
  go_wp2
  go_ret
  exact ⟨rfl, rfl⟩
theorem in_no (a b : Int) (h : ¬ FieldOk a b) (w : World) : Calls Try.prog 42 #[.int .i64 a, .int .i64 b] w fun e w' => e = .returned (.bool false) ∧ w = w' := by
  by_cases h1 : 0 ≤ a
  · by_cases h2 : 0 ≤ b
    · by_cases h3 : a ≤ 64
      · have h5 : decide (b ≤ 64 - a) = false := by unfold FieldOk at h; simp; omega
        clear h
        go_enter Try.func42, Try.ntmps42
        go_wp2
        go_ret
        exact ⟨rfl, rfl⟩
      · have h5 : decide (a ≤ 64) = false := by simp; omega
        clear h
        go_enter Try.func42, Try.ntmps42
        go_wp2
        go_ret
        exact ⟨rfl, rfl⟩
    · have h5 : decide (0 ≤ b) = false := by simp; omega
      clear h
      go_enter Try.func42, Try.ntmps42
      go_wp2
      go_ret
      exact ⟨rfl, rfl⟩
  · have h5 : decide (0 ≤ a) = false := by simp; omega
    clear h
    go_enter Try.func42, Try.ntmps42
    go_wp2
    go_ret
    exact ⟨rfl, rfl⟩
theorem mask_val (b : Nat) (h : b ≤ 64) : IntKind.u64.wrap (IntKind.u64.wrap (2 ^ b) - 1) = ((2 ^ b - 1 : Nat) : Int) := by
  rw [IntKind.wrap_u64, IntKind.wrap_u64]
  have h1 : 1 ≤ 2 ^ b := Nat.one_le_two_pow
  have h2 : 2 ^ b ≤ 2 ^ 64 := Nat.pow_le_pow_right (by decide) h
  have hc : ((2 : Int) ^ b) = ((2 ^ b : Nat) : Int) := by simp
  rw [hc]
  omega
theorem mask_ok (b : Nat) (h : b ≤ 64) (w : World) : Calls Try.prog 43 #[.int .i64 b] w fun e w' => e = .returned (.int .u64 ((2 ^ b - 1 : Nat) : Int)) ∧ w = w' := by
  have H := Lib.hid (mask_val b h)
  rw [← H.out]
  go_enter Try.func43, Try.ntmps43
  go_wp2
  go_ret
  exact ⟨rfl, rfl⟩
/-- Some bits of a number. -/
def getN (N a b : Nat) : Nat := N / 2 ^ a % 2 ^ b
theorem get_val (N a b : Nat) (hN : N ≤ 18446744073709551615) (hb : b ≤ 64) : bits .and .u64 ((N : Int) / 2 ^ a) ((2 ^ b - 1 : Nat) : Int) = ((getN N a b : Nat) : Int) := by
  have h1 : 1 ≤ 2 ^ b := Nat.one_le_two_pow
  have h2 : 2 ^ b ≤ 2 ^ 64 := Nat.pow_le_pow_right (by decide) hb
  have hd : N / 2 ^ a ≤ N := Nat.div_le_self _ _
  have hc : ((N : Int) / 2 ^ a) = ((N / 2 ^ a : Nat) : Int) := by simp
  rw [hc, bits_and_u64_nat _ _ (by omega) (by omega), Nat.and_two_pow_sub_one_eq_mod]
  rfl
theorem get_yes (N a b : Nat) (hN : N ≤ 18446744073709551615) (h : a + b ≤ 64) (w : World) :
    Calls Try.prog 19 #[.int .u64 N, .int .i64 a, .int .i64 b] w fun e w' => e = .returned (.tuple #[.int .u64 (getN N a b : Nat), .int .i64 0]) ∧ w = w' := by
  have hm := Lib.hid (mask_ok b (by omega))
  have hf := Lib.hid (in_yes a b (by unfold FieldOk; omega))
  have H := Lib.hid (get_val N a b hN (by omega))
  rw [← H.out]
  have hb : b ≤ 64 := by omega
  have ha : a ≤ 64 := by omega
  clear H
  generalize 2 ^ b - 1 = q at *
  go_enter Try.func19, Try.ntmps19
  go_wp2_with (first | (go_at_call 42; refine (hf.out _).mono ?_; rintro e w' ⟨rfl, rfl⟩) | (go_at_call 43; refine (hm.out _).mono ?_; rintro e w' ⟨rfl, rfl⟩))
  go_ret2
  exact ⟨rfl, rfl⟩
theorem get_no (N : Nat) (a b : Int) (h : ¬ FieldOk a b) (w : World) :
    Calls Try.prog 19 #[.int .u64 N, .int .i64 a, .int .i64 b] w fun e w' => e = .returned (.tuple #[.int .u64 0, .int .i64 1]) ∧ w = w' := by
  have hf := Lib.hid (in_no a b h)
  clear h
  go_enter Try.func19, Try.ntmps19
  go_wp2_with (first | (go_at_call 42; refine (hf.out _).mono ?_; rintro e w' ⟨rfl, rfl⟩))
  go_ret2
  exact ⟨rfl, rfl⟩

def setF (N a b T : Nat) (i : Nat) : Bool := if a ≤ i ∧ i < a + b then T.testBit (i - a) else N.testBit i
/-- A number some bits of which are others. -/
def setN (N a b T : Nat) : Nat := wholeN (listB (setF N a b T) 64)
theorem setN_bit (N a b T i : Nat) : (setN N a b T).testBit i = (decide (i < 64) && setF N a b T i) := listB_testBit _ _ _

theorem bits_andNot_u64_nat (a b : Nat) (ha : a ≤ 18446744073709551615) (hb : b ≤ 18446744073709551615) :
    bits .andNot .u64 (a : Int) (b : Int) = ((wholeN (listB (fun i => a.testBit i && !b.testBit i) 64) : Nat) : Int) := by
  have e : (BitVec.ofInt 64 (a : Int) &&& ~~~BitVec.ofInt 64 (b : Int)).toNat = wholeN (listB (fun i => a.testBit i && !b.testBit i) 64) := by
    apply Nat.eq_of_testBit_eq
    intro i
    rw [listB_testBit, BitVec.testBit_toNat, BitVec.ofInt_natCast, BitVec.ofInt_natCast, BitVec.getLsbD_and, BitVec.getLsbD_not, BitVec.getLsbD_ofNat, BitVec.getLsbD_ofNat]
    by_cases hi : i < 64
    · simp only [hi, decide_true, Bool.true_and]
    · simp only [hi, decide_false, Bool.false_and]
  show IntKind.u64.wrap ((BitVec.ofInt 64 (a : Int) &&& ~~~BitVec.ofInt 64 (b : Int)).toNat : Int) = _
  rw [e, IntKind.wrap_u64]
  have := wholeN_lt (listB (fun i => a.testBit i && !b.testBit i) 64)
  simp only [listB, List.length_map, List.length_range] at this
  simp only [listB]
  omega
theorem and_zero (T b : Nat) (hT : T ≤ 18446744073709551615) (hb : b ≤ 64) : bits .andNot .u64 (T : Int) ((2 ^ b - 1 : Nat) : Int) = 0 ↔ T < 2 ^ b := by
  have h1 : 1 ≤ 2 ^ b := Nat.one_le_two_pow
  have h2 : 2 ^ b ≤ 2 ^ 64 := Nat.pow_le_pow_right (by decide) hb
  rw [bits_andNot_u64_nat _ _ hT (by omega)]
  constructor
  · intro h
    apply Nat.lt_pow_two_of_testBit
    intro i hi
    by_cases h64 : i < 64
    · have h0 : wholeN (listB (fun i => T.testBit i && !(2 ^ b - 1).testBit i) 64) = 0 := by omega
      have := congrArg (fun x => x.testBit i) h0
      simp only [listB_testBit, Nat.testBit_two_pow_sub_one, h64, Nat.zero_testBit, decide_true, Bool.true_and, show ¬ i < b by omega, decide_false, Bool.not_false, Bool.and_true] at this
      exact this
    · exact Nat.testBit_lt_two_pow (Nat.lt_of_lt_of_le (show T < 2 ^ 64 by omega) (Nat.pow_le_pow_right (by decide) (by omega)))
  · intro h
    have h0 : wholeN (listB (fun i => T.testBit i && !(2 ^ b - 1).testBit i) 64) = 0 := by
      apply Nat.eq_of_testBit_eq
      intro i
      rw [listB_testBit, Nat.testBit_two_pow_sub_one, Nat.zero_testBit]
      by_cases hi : i < b
      · simp [hi]
      · rw [Nat.testBit_lt_two_pow (Nat.lt_of_lt_of_le h (Nat.pow_le_pow_right (by decide) (by omega)))]; simp
    rw [h0]; rfl
theorem set_val (N a b T : Nat) (hN : N ≤ 18446744073709551615) (hT : T < 2 ^ b) (h : a + b ≤ 64) :
    bits .or .u64 (bits .andNot .u64 (N : Int) (IntKind.u64.wrap (((2 ^ b - 1 : Nat) : Int) * 2 ^ a))) (IntKind.u64.wrap ((T : Int) * 2 ^ a)) = ((setN N a b T : Nat) : Int) := by
  have h1 : 1 ≤ 2 ^ b := Nat.one_le_two_pow
  have hc : ((2 : Int) ^ a) = ((2 ^ a : Nat) : Int) := by simp
  have hw : ∀ q : Nat, IntKind.u64.wrap ((q : Int) * 2 ^ a) = ((q * 2 ^ a % 2 ^ 64 : Nat) : Int) := by
    intro q
    rw [IntKind.wrap_u64, hc, ← Int.natCast_mul]
    omega
  have hlt : ∀ q : Nat, q * 2 ^ a % 2 ^ 64 < 2 ^ 64 := fun q => Nat.mod_lt _ (by decide)
  have hl1 := hlt (2 ^ b - 1)
  have hl2 := hlt T
  have hR := wholeN_lt (listB (fun i => N.testBit i && !((2 ^ b - 1) * 2 ^ a % 2 ^ 64).testBit i) 64)
  simp only [listB, List.length_map, List.length_range] at hR
  rw [hw, hw, bits_andNot_u64_nat _ _ hN (by omega), bits_or_u64_nat _ _ (by unfold listB; omega) (by omega)]
  congr 1
  apply Nat.eq_of_testBit_eq
  intro i
  rw [setN_bit, Nat.testBit_or, listB_testBit, Nat.testBit_mod_two_pow, Nat.testBit_mod_two_pow, ← Nat.shiftLeft_eq, ← Nat.shiftLeft_eq, Nat.testBit_shiftLeft, Nat.testBit_shiftLeft, Nat.testBit_two_pow_sub_one]
  by_cases hi : i < 64
  · simp only [hi, decide_true, Bool.true_and]
    unfold setF
    by_cases h2 : a ≤ i
    · by_cases h3 : i < a + b
      · rw [if_pos ⟨h2, h3⟩]; simp [h2, show i - a < b by omega]
      · rw [if_neg (by omega)]
        have hz : T.testBit (i - a) = false := Nat.testBit_lt_two_pow (Nat.lt_of_lt_of_le hT (Nat.pow_le_pow_right (by decide) (by omega)))
        simp [h2, hz, show ¬ i - a < b by omega]
    · rw [if_neg (by omega)]; simp [h2]
  · simp [hi]
theorem set_no (N T : Nat) (a b : Int) (h : ¬ FieldOk a b) (w : World) :
    Calls Try.prog 21 #[.int .u64 N, .int .i64 a, .int .i64 b, .int .u64 T] w fun e w' => e = .returned (.tuple #[.int .u64 0, .int .i64 1]) ∧ w = w' := by
  have hf := Lib.hid (in_no a b h)
  clear h
  go_enter Try.func21, Try.ntmps21
  go_wp2_with (first | (go_at_call 42; refine (hf.out _).mono ?_; rintro e w' ⟨rfl, rfl⟩))
  go_ret2
  exact ⟨rfl, rfl⟩
theorem set_big (N a b T : Nat) (hT : T ≤ 18446744073709551615) (h : a + b ≤ 64) (hb : ¬ T < 2 ^ b) (w : World) :
    Calls Try.prog 21 #[.int .u64 N, .int .i64 a, .int .i64 b, .int .u64 T] w fun e w' => e = .returned (.tuple #[.int .u64 0, .int .i64 14]) ∧ w = w' := by
  have hm := Lib.hid (mask_ok b (by omega))
  have hf := Lib.hid (in_yes a b (by unfold FieldOk; omega))
  have hz : (bits .andNot .u64 (T : Int) ((2 ^ b - 1 : Nat) : Int) == 0) = false := by
    rw [beq_eq_false_iff_ne]; exact fun h0 => hb ((and_zero T b hT (by omega)).1 h0)
  clear hb
  generalize 2 ^ b - 1 = q at *
  go_enter Try.func21, Try.ntmps21
  go_wp2_with (first | (go_at_call 42; refine (hf.out _).mono ?_; rintro e w' ⟨rfl, rfl⟩) | (go_at_call 43; refine (hm.out _).mono ?_; rintro e w' ⟨rfl, rfl⟩))
  go_ret2
  exact ⟨rfl, rfl⟩
theorem set_yes (N a b T : Nat) (hN : N ≤ 18446744073709551615) (hT : T ≤ 18446744073709551615) (h : a + b ≤ 64) (hb : T < 2 ^ b) (w : World) :
    Calls Try.prog 21 #[.int .u64 N, .int .i64 a, .int .i64 b, .int .u64 T] w fun e w' => e = .returned (.tuple #[.int .u64 (setN N a b T : Nat), .int .i64 0]) ∧ w = w' := by
  have hm := Lib.hid (mask_ok b (by omega))
  have hf := Lib.hid (in_yes a b (by unfold FieldOk; omega))
  have hz := (and_zero T b hT (by omega)).2 hb
  have H := Lib.hid (set_val N a b T hN hb h)
  rw [← H.out]
  have ha : a ≤ 64 := by omega
  clear hb H
  generalize 2 ^ b - 1 = q at *
  go_enter Try.func21, Try.ntmps21
  go_wp2_with (first | (go_at_call 42; refine (hf.out _).mono ?_; rintro e w' ⟨rfl, rfl⟩) | (go_at_call 43; refine (hm.out _).mono ?_; rintro e w' ⟨rfl, rfl⟩))
  go_ret2
  exact ⟨rfl, rfl⟩
end Go.Proofs.Ytdoaepopkdeonaa
