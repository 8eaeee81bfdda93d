/-
  Conv: contracts of ReverseBytes64 and of the program's Swap.
-/
import Derived.Test.YtdoaepopkdeonaaD2
namespace Go.Proofs.Ytdoaepopkdeonaa
set_option linter.unusedVariables false
set_option linter.unusedSimpArgs false
open Go.RowKit

/-- One stage: groups of k bits change places. -/
def stN (X k m : Nat) : Nat := ((X / 2 ^ k) &&& m) ||| ((X &&& m) * 2 ^ k % 2 ^ 64)
theorem st_bit (X k m i : Nat) (hi : i < 64) : (stN X k m).testBit i = ((X.testBit (k + i) && m.testBit i) || (decide (k ≤ i) && (X.testBit (i - k) && m.testBit (i - k)))) := by
  unfold stN
  rw [Nat.testBit_or, Nat.testBit_and, ← Nat.shiftRight_eq_div_pow, Nat.testBit_shiftRight, Nat.testBit_mod_two_pow, ← Nat.shiftLeft_eq, Nat.testBit_shiftLeft, Nat.testBit_and]
  simp [hi]
theorem stN_lt (X k m : Nat) (hX : X < 2 ^ 64) : stN X k m < 2 ^ 64 := by
  unfold stN
  refine Nat.or_lt_two_pow (Nat.lt_of_le_of_lt Nat.and_le_left (Nat.lt_of_le_of_lt (Nat.div_le_self _ _) hX)) (Nat.mod_lt _ (by decide))
theorem st_val (X k m : Nat) (p : Int) (hp : p = ((2 ^ k : Nat) : Int)) (hX : X < 2 ^ 64) (hm : m < 2 ^ 64) :
    bits .or .u64 (bits .and .u64 ((X : Int) / p) (m : Int)) (IntKind.u64.wrap (bits .and .u64 (X : Int) (m : Int) * p)) = ((stN X k m : Nat) : Int) := by
  subst hp
  have h1 : X / 2 ^ k < 18446744073709551616 := Nat.lt_of_le_of_lt (Nat.div_le_self _ _) hX
  have e : ((X : Int) / ((2 ^ k : Nat) : Int)) = ((X / 2 ^ k : Nat) : Int) := (Int.natCast_ediv _ _).symm
  rw [e, bits_and_u64_nat _ _ h1 hm, bits_and_u64_nat _ _ hX hm, IntKind.wrap_u64, ← Int.natCast_mul]
  have h2 : ((((X &&& m) * 2 ^ k : Nat) : Int) % 18446744073709551616) = (((X &&& m) * 2 ^ k % 2 ^ 64 : Nat) : Int) := by omega
  rw [h2, bits_or_u64_nat]
  · rfl
  · exact Nat.lt_of_le_of_lt Nat.and_le_left h1
  · exact Nat.mod_lt _ (by decide)
theorem st3_val (X : Nat) (hX : X < 2 ^ 64) :
    bits .or .u64 ((X : Int) / 4294967296) (IntKind.u64.wrap ((X : Int) * 4294967296)) = ((stN X 32 18446744073709551615 : Nat) : Int) := by
  have e1 : X &&& 18446744073709551615 = X := by
    rw [show (18446744073709551615 : Nat) = 2 ^ 64 - 1 from rfl, Nat.and_two_pow_sub_one_eq_mod, Nat.mod_eq_of_lt hX]
  have h0 : X / 2 ^ 32 < 2 ^ 64 := Nat.lt_of_le_of_lt (Nat.div_le_self _ _) hX
  have e2 : X / 2 ^ 32 &&& 18446744073709551615 = X / 2 ^ 32 := by
    rw [show (18446744073709551615 : Nat) = 2 ^ 64 - 1 from rfl, Nat.and_two_pow_sub_one_eq_mod, Nat.mod_eq_of_lt h0]
  unfold stN
  rw [e1, e2]
  have e : ((X : Int) / 4294967296) = ((X / 2 ^ 32 : Nat) : Int) := by omega
  have h2 : (((X : Int) * 4294967296) % 18446744073709551616) = ((X * 2 ^ 32 % 2 ^ 64 : Nat) : Int) := by omega
  rw [e, IntKind.wrap_u64, h2, bits_or_u64_nat _ _ h0 (Nat.mod_lt _ (by decide))]

theorem m8_bit : ∀ i : Fin 64, (71777214294589695 : Nat).testBit i = decide (i.val / 8 % 2 = 0) := by decide +kernel
theorem m16_bit : ∀ i : Fin 64, (281470681808895 : Nat).testBit i = decide (i.val / 16 % 2 = 0) := by decide +kernel
theorem m64_bit : ∀ i : Fin 64, (18446744073709551615 : Nat).testBit i = true := by decide +kernel

/-- The bytes of a number the other way round. -/
def revN (X : Nat) : Nat := stN (stN (stN X 8 71777214294589695) 16 281470681808895) 32 18446744073709551615
theorem st8 (X i : Nat) (hX : X < 2 ^ 64) (hi : i < 64) : (stN X 8 71777214294589695).testBit i = X.testBit (if i / 8 % 2 = 0 then i + 8 else i - 8) := by
  rw [st_bit _ _ _ _ hi, m8_bit ⟨i, hi⟩]
  by_cases h : i / 8 % 2 = 0
  · rw [if_pos h]
    by_cases h8 : 8 ≤ i
    · rw [m8_bit ⟨i - 8, by omega⟩]; simp only [h, h8, decide_true, Bool.and_true, Bool.true_and, show ¬ (i - 8) / 8 % 2 = 0 by omega, decide_false, Bool.and_false, Bool.or_false]; rw [Nat.add_comm]
    · simp only [h, h8, decide_true, Bool.and_true, decide_false, Bool.false_and, Bool.or_false]; rw [Nat.add_comm]
  · rw [if_neg h]
    have h8 : 8 ≤ i := by omega
    rw [m8_bit ⟨i - 8, by omega⟩]; simp only [h, h8, decide_true, Bool.and_true, Bool.true_and, show (i - 8) / 8 % 2 = 0 by omega, decide_false, Bool.and_false, Bool.false_or]
theorem st16 (X i : Nat) (hX : X < 2 ^ 64) (hi : i < 64) : (stN X 16 281470681808895).testBit i = X.testBit (if i / 16 % 2 = 0 then i + 16 else i - 16) := by
  rw [st_bit _ _ _ _ hi, m16_bit ⟨i, hi⟩]
  by_cases h : i / 16 % 2 = 0
  · rw [if_pos h]
    by_cases h8 : 16 ≤ i
    · rw [m16_bit ⟨i - 16, by omega⟩]; simp only [h, h8, decide_true, Bool.and_true, Bool.true_and, show ¬ (i - 16) / 16 % 2 = 0 by omega, decide_false, Bool.and_false, Bool.or_false]; rw [Nat.add_comm]
    · simp only [h, h8, decide_true, Bool.and_true, decide_false, Bool.false_and, Bool.or_false]; rw [Nat.add_comm]
  · rw [if_neg h]
    have h8 : 16 ≤ i := by omega
    rw [m16_bit ⟨i - 16, by omega⟩]; simp only [h, h8, decide_true, Bool.and_true, Bool.true_and, show (i - 16) / 16 % 2 = 0 by omega, decide_false, Bool.and_false, Bool.false_or]
theorem st32 (X i : Nat) (hX : X < 2 ^ 64) (hi : i < 64) : (stN X 32 18446744073709551615).testBit i = X.testBit (if i < 32 then i + 32 else i - 32) := by
  rw [st_bit _ _ _ _ hi, m64_bit ⟨i, hi⟩]
  by_cases h : i < 32
  · rw [if_pos h]
    simp only [show ¬ 32 ≤ i by omega, Bool.and_true, decide_false, Bool.false_and, Bool.or_false]; rw [Nat.add_comm]
  · rw [if_neg h]
    rw [m64_bit ⟨i - 32, by omega⟩, Nat.testBit_lt_two_pow (Nat.lt_of_lt_of_le hX (Nat.pow_le_pow_right (by decide) (by omega)))]
    simp only [show 32 ≤ i by omega, Bool.and_true, Bool.false_and, Bool.false_or, decide_true, Bool.true_and]
theorem rev_bit (X i : Nat) (hX : X < 2 ^ 64) (hi : i < 64) : (revN X).testBit i = X.testBit (56 - i / 8 * 8 + i % 8) := by
  unfold revN
  have h1 := stN_lt X 8 71777214294589695 hX
  have h2 := stN_lt _ 16 281470681808895 h1
  rw [st32 _ i h2 hi]
  rw [st16 _ _ h1 (by split <;> omega)]
  rw [st8 _ _ hX (by split <;> split <;> omega)]
  congr 1
  split <;> split <;> split <;> omega
theorem revN_lt (X : Nat) (hX : X < 2 ^ 64) : revN X < 2 ^ 64 := stN_lt _ _ _ (stN_lt _ _ _ (stN_lt _ _ _ hX))

set_option maxHeartbeats 800000 in
theorem rev_ok (X : Nat) (hX : X < 2 ^ 64) (w : World) :
    Calls Try.prog 44 #[.int .u64 X] w fun e w' => e = .returned (.int .u64 (revN X : Nat)) ∧ w' = w := by
  have h1 := stN_lt X 8 71777214294589695 hX
  have h2 := stN_lt _ 16 281470681808895 h1
  have e1 := st_val X 8 71777214294589695 256 rfl hX (by decide)
  have e2 := st_val _ 16 281470681808895 65536 rfl h1 (by decide)
  have e3 := st3_val _ h2
  unfold revN
  generalize hA : stN X 8 71777214294589695 = A at *
  generalize hB : stN A 16 281470681808895 = B at *
  generalize hC : stN B 32 18446744073709551615 = C at *
  clear hA hB hC h1 h2 hX
  simp only [Int.cast_ofNat_Int] at e1 e2
  go_enter Try.func44, Try.ntmps44
  go_wp2
  go_ret
  exact ⟨rfl, rfl⟩

theorem wrap_back (kind n : Int) (h0 : 0 ≤ kind) (h7 : kind ≤ 7) (hn : Fits n) (w : World) :
    Calls Try.prog 17 #[.int .i64 kind, .int .i64 n] w fun e w' => e = .returned (.tuple #[.int .i64 (wrapK kind n), .int .i64 0]) ∧ w' = w :=
  (wrap_ok kind n h0 h7 hn w).mono fun _ _ ⟨a, b⟩ => ⟨a, b.symm⟩

/-- Swap's answer: what is left of the bytes the other way round. -/
def swapK (kind n : Int) : Int := wrapK kind (wrap64 ((revN (U n * 2 ^ (64 - wd kind) % 2 ^ 64) &&& (2 ^ wd kind - 1) : Nat) : Int))

set_option maxHeartbeats 800000 in
theorem swap_ok (kind n : Int) (k0 : 0 ≤ kind) (k7 : kind ≤ 7) (w : World) :
    Calls Try.prog 27 #[.int .i64 kind, .int .i64 n] w fun e w' => e = .returned (.tuple #[.int .i64 (swapK kind n), .int .i64 0]) ∧ Below w.heap.size w w' := by
  have H : CB kind (wd kind : Nat) (sgnB kind) := fun w => bits_ok kind k0 k7 w
  have HW := Lib.hid (fun m => wrap_back kind (wrap64 m) k0 k7 (fits_wrap64 m))
  obtain ⟨hb, hb2⟩ := wd_bd kind
  unfold swapK
  generalize wd kind = b at *
  generalize sgnB kind = S at *
  have hX : U n * 2 ^ (64 - b) % 2 ^ 64 < 2 ^ 64 := Nat.mod_lt _ (by decide)
  have g1 : IntKind.u64.wrap (IntKind.u64.wrap n * 2 ^ (64 - b)) = ((U n * 2 ^ (64 - b) % 2 ^ 64 : Nat) : Int) := by
    have hc : ((2 : Int) ^ (64 - b)) = ((2 ^ (64 - b) : Nat) : Int) := by simp
    rw [U_wrap n, IntKind.wrap_u64, hc, ← Int.natCast_mul]; omega
  have hR := Lib.hid (rev_ok _ hX)
  have hlt := revN_lt _ hX
  have p1 : 2 ^ (b - 1) ≤ 2 ^ 63 := Nat.pow_le_pow_right (by decide) (by omega)
  have p2 : 2 ^ b = 2 ^ (b - 1) * 2 := by rw [← Nat.pow_succ]; congr 1; omega
  have p3 : 1 ≤ 2 ^ (b - 1) := Nat.one_le_two_pow
  have g2 : IntKind.u64.wrap (2 ^ (b - 1)) = ((2 ^ (b - 1) : Nat) : Int) := by
    have hc : ((2 : Int) ^ (b - 1)) = ((2 ^ (b - 1) : Nat) : Int) := by simp
    rw [IntKind.wrap_u64, hc]; omega
  have g3 : IntKind.u64.wrap (((2 ^ (b - 1) : Nat) : Int) * 2) = ((2 ^ b % 2 ^ 64 : Nat) : Int) := by
    rw [IntKind.wrap_u64]; omega
  have g4 : IntKind.u64.wrap (((2 ^ b % 2 ^ 64 : Nat) : Int) - 1) = ((2 ^ b - 1 : Nat) : Int) := by
    rw [IntKind.wrap_u64]; omega
  have g5 := bits_and_u64_nat (revN (U n * 2 ^ (64 - b) % 2 ^ 64)) (2 ^ b - 1) hlt (by omega)
  generalize revN (U n * 2 ^ (64 - b) % 2 ^ 64) &&& (2 ^ b - 1) = V at *
  generalize revN (U n * 2 ^ (64 - b) % 2 ^ 64) = R at *
  generalize U n * 2 ^ (64 - b) % 2 ^ 64 = X at *
  generalize 2 ^ b - 1 = M at *
  generalize 2 ^ b % 2 ^ 64 = P2 at *
  generalize ((2 ^ (b - 1) : Nat) : Int) = P1 at *
  clear hX hlt p1 p2 p3 k0 k7
  have f0 : IntKind.i64.wrap (V : Int) = wrap64 V := by simp only [IntKind.wrap, IntKind.bits, IntKind.signed, wrap64]; simp; split <;> omega
  have f1 : IntKind.i64.wrap (64 - (b : Int)) = 64 - b := IntWalk.i64_in _ (by omega)
  have f2 : 0 ≤ 64 - (b : Int) := by omega
  have f3 : (64 - (b : Int)).toNat = 64 - b := by omega
  have f5 : IntKind.i64.wrap ((b : Int) - 1) = b - 1 := IntWalk.i64_in _ (by omega)
  have f6 : 0 ≤ (b : Int) - 1 := by omega
  have f7 : ((b : Int) - 1).toNat = b - 1 := by omega
  have f8 : 64 - (b : Int) ≤ 64 := by omega
  have f9 : (b : Int) - 1 ≤ 64 := by omega
  go_enter Try.func27, Try.ntmps27
  go_wp2_with (first
        | (go_at_call 31; first | (with_reducible refine (H.use _).mono ?_); rintro e w' ⟨rfl, rfl⟩))
  go_quiet ((first | (go_at_call 44; exact Calls.quiet_of_same (hR.out _)) | (go_at_call 17; exact Calls.quiet_of_same (HW.out _ _))))
  go_wp2
  go_ret2
  exact ⟨rfl, below_drawn (Below.refl _ _) _⟩
end Go.Proofs.Ytdoaepopkdeonaa
