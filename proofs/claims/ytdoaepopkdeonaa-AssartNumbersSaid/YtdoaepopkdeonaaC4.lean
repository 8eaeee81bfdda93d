/-
  Conv: fields of bits: plain laws; what ConvFields calls, in bundles.
-/
import Derived.Test.YtdoaepopkdeonaaC3
namespace Go.Proofs.Ytdoaepopkdeonaa
set_option linter.unusedVariables false
set_option linter.unusedSimpArgs false
open Go.RowKit

theorem getN_bit (N a b i : Nat) : (getN N a b).testBit i = (decide (i < b) && N.testBit (a + i)) := by
  unfold getN; rw [Nat.testBit_mod_two_pow, ← Nat.shiftRight_eq_div_pow, Nat.testBit_shiftRight]
theorem getN_lt (N a b : Nat) : getN N a b < 2 ^ b := Nat.mod_lt _ (Nat.two_pow_pos _)
theorem setN_le (N a b T : Nat) : setN N a b T ≤ 18446744073709551615 := by
  have := wholeN_lt (listB (setF N a b T) 64)
  simp only [listB, List.length_map, List.length_range] at this
  unfold setN listB; omega
theorem getN_le (N a b : Nat) (hN : N ≤ 18446744073709551615) : getN N a b ≤ 18446744073709551615 :=
  Nat.le_trans (Nat.le_trans (Nat.mod_le _ _) (Nat.div_le_self _ _)) hN
theorem get_set (N a b T : Nat) (h : a + b ≤ 64) (hT : T < 2 ^ b) : getN (setN N a b T) a b = T := by
  apply Nat.eq_of_testBit_eq
  intro i
  rw [getN_bit, setN_bit]
  by_cases hi : i < b
  · unfold setF
    rw [if_pos (by omega), show a + i - a = i by omega]
    simp [hi]; omega
  · rw [small_bit T b i hT (by omega)]; simp [hi]
theorem set_back (N a b T : Nat) (hN : N ≤ 18446744073709551615) (h : a + b ≤ 64) : setN (setN N a b T) a b (getN N a b) = N := by
  apply Nat.eq_of_testBit_eq
  intro i
  rw [setN_bit]
  by_cases hi : i < 64
  · unfold setF
    by_cases h1 : a ≤ i ∧ i < a + b
    · rw [if_pos h1, getN_bit, show a + (i - a) = i by omega]; simp [hi]; omega
    · rw [if_neg h1, setN_bit]; unfold setF; rw [if_neg h1]; simp [hi]
  · have : N.testBit i = false := Nat.testBit_lt_two_pow (Nat.lt_of_lt_of_le (show N < 2 ^ 64 by omega) (Nat.pow_le_pow_right (by decide) (by omega)))
    rw [this]; simp [hi]

/-- Get, DocGet; Set, DocSet. -/
def CG (N a b r e : Int) : Prop := ∀ w, Calls Try.prog 19 #[.int .u64 N, .int .i64 a, .int .i64 b] w fun en w' => en = .returned (.tuple #[.int .u64 r, .int .i64 e]) ∧ w = w'
def DG (N a b r e : Int) : Prop := ∀ w, Calls Try.prog 18 #[.int .u64 N, .int .i64 a, .int .i64 b] w fun en w' => en = .returned (.tuple #[.int .u64 r, .int .i64 e]) ∧ Below w.heap.size w w'
def CS (N a b T r e : Int) : Prop := ∀ w, Calls Try.prog 21 #[.int .u64 N, .int .i64 a, .int .i64 b, .int .u64 T] w fun en w' => en = .returned (.tuple #[.int .u64 r, .int .i64 e]) ∧ w = w'
def DS (N a b T r e : Int) : Prop := ∀ w, Calls Try.prog 20 #[.int .u64 N, .int .i64 a, .int .i64 b, .int .u64 T] w fun en w' => en = .returned (.tuple #[.int .u64 r, .int .i64 e]) ∧ Below w.heap.size w w'
theorem CG.use {N a b r e : Int} (h : CG N a b r e) (w : World) : Calls Try.prog 19 #[.int .u64 N, .int .i64 a, .int .i64 b] w fun en w' => en = .returned (.tuple #[.int .u64 r, .int .i64 e]) ∧ w = w' := h w
theorem DG.use {N a b r e : Int} (h : DG N a b r e) (w : World) : Calls Try.prog 18 #[.int .u64 N, .int .i64 a, .int .i64 b] w fun en w' => en = .returned (.tuple #[.int .u64 r, .int .i64 e]) ∧ Below w.heap.size w w' := h w
theorem CS.use {N a b T r e : Int} (h : CS N a b T r e) (w : World) : Calls Try.prog 21 #[.int .u64 N, .int .i64 a, .int .i64 b, .int .u64 T] w fun en w' => en = .returned (.tuple #[.int .u64 r, .int .i64 e]) ∧ w = w' := h w
theorem DS.use {N a b T r e : Int} (h : DS N a b T r e) (w : World) : Calls Try.prog 20 #[.int .u64 N, .int .i64 a, .int .i64 b, .int .u64 T] w fun en w' => en = .returned (.tuple #[.int .u64 r, .int .i64 e]) ∧ Below w.heap.size w w' := h w

/-- One round of ConvFields. -/
theorem fields_round (N a b T : Nat) (hN : N ≤ 18446744073709551615) (hT : T ≤ 18446744073709551615) (h : a + b ≤ 64) :
    (∃ D : Int, DS N a b T D 0 ∧ CS N a b T D 0 ∧ CG D a b T 0 ∧ CS D a b (getN N a b : Nat) N 0) ∨ (DS N a b T 0 14 ∧ CS N a b T 0 14) := by
  by_cases hb : T < 2 ^ b
  · refine .inl ⟨(setN N a b T : Nat), fun w => docSet_yes N a b T hN hT h hb w, fun w => set_yes N a b T hN hT h hb w, fun w => ?_, fun w => ?_⟩
    · have := get_yes (setN N a b T) a b (setN_le _ _ _ _) h w
      rwa [get_set N a b T h hb] at this
    · have := set_yes (setN N a b T) a b (getN N a b) (setN_le _ _ _ _) (getN_le _ _ _ hN) h (getN_lt _ _ _) w
      rwa [set_back N a b T hN h] at this
  · exact .inr ⟨fun w => docSet_big N a b T hT h hb w, fun w => set_big N a b T hT h hb w⟩
theorem u64_nat (op : BinOp) (x y : Int) : ∃ T : Nat, bits op .u64 x y = T ∧ T ≤ 18446744073709551615 := by
  have h1 := bits_lo_u64 op x y
  have h2 := bits_hi_u64 op x y
  exact ⟨(bits op .u64 x y).toNat, by omega, by omega⟩
theorem nat_of_wf {n : Int} (h : (Lit.int .u64 n).wf = true) : ∃ N : Nat, n = N ∧ N ≤ 18446744073709551615 := by
  simp [Lit.wf, IntKind.min, IntKind.max, IntKind.bits, IntKind.signed] at h
  exact ⟨n.toNat, by omega, by omega⟩
end Go.Proofs.Ytdoaepopkdeonaa
