/-
  Conv: what ConvDoubles calls, in one bundle.
-/
import Derived.Test.YtdoaepopkdeonaaP2
namespace Go.Proofs.Ytdoaepopkdeonaa
set_option linter.unusedVariables false
set_option linter.unusedSimpArgs false
open Go.RowKit

theorem fits_tellK (kind : Int) (b N : Nat) (hb : 1 ≤ b) (hb2 : b ≤ 64) (hN : N < 2 ^ b) : Fits (tellK kind b N) := by
  unfold tellK
  split
  · rename_i h
    have hp : 2 ^ b = 2 * 2 ^ (b - 1) := by rw [← Nat.pow_succ']; congr 1; omega
    have hp2 : 2 ^ (b - 1) ≤ 2 ^ 63 := Nat.pow_le_pow_right (by decide) (by omega)
    have hc : ((2 : Int) ^ b) = ((2 ^ b : Nat) : Int) := by simp
    rw [hc]
    unfold Fits
    omega
  · exact fits_wrap64 _
theorem fits_wrapK (kind n : Int) : Fits (wrapK kind n) := fits_tellK kind _ _ (wd_pos kind) (wd_bd kind).2 (Nat.mod_lt _ (Nat.two_pow_pos _))
theorem fits_rightK (kind n : Int) (m : Nat) (h0 : 0 ≤ kind) (h7 : kind ≤ 7) : Fits (rightK kind n m) := by
  rw [← rightK_tell kind n m h0 h7]; exact fits_wrapK _ _

/-- Wrap, Left, Right of a kind that there is. -/
def CW (k n r : Int) : Prop := ∀ w, Calls Try.prog 17 #[.int .i64 k, .int .i64 n] w fun e w' => e = .returned (.tuple #[.int .i64 r, .int .i64 0]) ∧ w = w'
def CL (k n m r : Int) : Prop := ∀ w, Calls Try.prog 13 #[.int .i64 k, .int .i64 n, .int .i64 m] w fun e w' => e = .returned (.tuple #[.int .i64 r, .int .i64 0]) ∧ w = w'
def CR (k n m r : Int) : Prop := ∀ w, Calls Try.prog 15 #[.int .i64 k, .int .i64 n, .int .i64 m] w fun e w' => e = .returned (.tuple #[.int .i64 r, .int .i64 0]) ∧ w = w'

theorem CW.use {k n r : Int} (h : CW k n r) (w : World) : Calls Try.prog 17 #[.int .i64 k, .int .i64 n] w fun e w' => e = .returned (.tuple #[.int .i64 r, .int .i64 0]) ∧ w = w' := h w
theorem CL.use {k n m r : Int} (h : CL k n m r) (w : World) : Calls Try.prog 13 #[.int .i64 k, .int .i64 n, .int .i64 m] w fun e w' => e = .returned (.tuple #[.int .i64 r, .int .i64 0]) ∧ w = w' := h w
theorem CR.use {k n m r : Int} (h : CR k n m r) (w : World) : Calls Try.prog 15 #[.int .i64 k, .int .i64 n, .int .i64 m] w fun e w' => e = .returned (.tuple #[.int .i64 r, .int .i64 0]) ∧ w = w' := h w

theorem cw (k n : Int) (h0 : 0 ≤ k) (h7 : k ≤ 7) (hn : Fits n) : CW k n (wrapK k n) := fun w => wrap_ok k n h0 h7 hn w
theorem cl (k n m : Int) (h0 : 0 ≤ k) (h7 : k ≤ 7) (hm : 0 ≤ m) (hm2 : m ≤ 1000) : CL k n m (leftK k n m.toNat) := fun w => left_ok k n m h0 h7 hm (by omega) w
theorem cr (k n m : Int) (h0 : 0 ≤ k) (h7 : k ≤ 7) (hn : Fits n) (hm : 0 ≤ m) (hm2 : m ≤ 1000) : CR k n m (rightK k n m.toNat) := fun w => right_ok k n m h0 h7 hn hm (by omega) w

theorem doubles_calls (k n m : Int) (h0 : 0 ≤ k) (h7 : k ≤ 7) (hn : Fits n) (hm : 0 ≤ m) (hm2 : m ≤ 69) : ∃ W A C X R S SM : Int,
    CW k n W ∧ CL k n 1 A ∧ CW k (wrap64 (W + W)) A ∧ CL k n m C ∧ CL k C 1 X ∧ CL k n (m + 1) X ∧ CR k n m R ∧ CR k R 1 S ∧ CR k n (m + 1) S ∧ CR k n 63 SM ∧ CL k SM 0 SM ∧ CL k R 0 R := by
  refine ⟨wrapK k n, leftK k n 1, leftK k n m.toNat, leftK k n (m.toNat + 1), rightK k n m.toNat, rightK k n (m.toNat + 1), rightK k n (63 : Int).toNat, ?_, ?_, ?_, ?_, ?_, ?_, ?_, ?_, ?_, ?_, ?_, ?_⟩
  · exact cw k n h0 h7 hn
  · exact cl k n 1 h0 h7 (by decide) (by decide)
  · rw [double]; exact cw k _ h0 h7 (fits_wrap64 _)
  · exact cl k n m h0 h7 hm (by omega)
  · rw [← left_left]; exact cl k _ 1 h0 h7 (by decide) (by decide)
  · have := cl k n (m + 1) h0 h7 (by omega) (by omega)
    rwa [show (m + 1).toNat = m.toNat + 1 by omega] at this
  · exact cr k n m h0 h7 hn hm (by omega)
  · rw [← right_right k n m.toNat h0 h7]; exact cr k _ 1 h0 h7 (fits_rightK _ _ _ h0 h7) (by decide) (by decide)
  · have := cr k n (m + 1) h0 h7 hn (by omega) (by omega)
    rwa [show (m + 1).toNat = m.toNat + 1 by omega] at this
  · exact cr k n 63 h0 h7 hn (by decide) (by decide)
  · have := cl k (rightK k n (63 : Int).toNat) 0 h0 h7 (by decide) (by decide)
    rwa [show (0 : Int).toNat = 0 from rfl, left_zero k _ (rightK_tell _ _ _ h0 h7)] at this
  · have := cl k (rightK k n m.toNat) 0 h0 h7 (by decide) (by decide)
    rwa [show (0 : Int).toNat = 0 from rfl, left_zero k _ (rightK_tell _ _ _ h0 h7)] at this

theorem mod_bd (a c : Int) (hc : 0 < c) (hc2 : c ≤ 1000) : 0 ≤ wrap64 ((IntKind.u64.wrap a).tmod c) ∧ wrap64 ((IntKind.u64.wrap a).tmod c) ≤ c - 1 := by
  have h0 : 0 ≤ IntKind.u64.wrap a := by rw [U_wrap]; omega
  rw [Int.tmod_eq_emod_of_nonneg h0]
  have h1 := Int.emod_nonneg (IntKind.u64.wrap a) (show c ≠ 0 by omega)
  have h2 := Int.emod_lt_of_pos (IntKind.u64.wrap a) hc
  unfold wrap64
  omega
end Go.Proofs.Ytdoaepopkdeonaa
