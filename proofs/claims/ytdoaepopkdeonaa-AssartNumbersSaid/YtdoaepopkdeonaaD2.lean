/-
  Conv: what ConvNarrow calls, in one bundle.
-/
import Derived.Test.YtdoaepopkdeonaaD1
namespace Go.Proofs.Ytdoaepopkdeonaa
set_option linter.unusedVariables false
set_option linter.unusedSimpArgs false
open Go.RowKit

def CB (k v : Int) (s : Bool) : Prop := ∀ w, Calls Try.prog 31 #[.int .i64 k] w fun e w' => e = .returned (.tuple #[.int .i64 v, .bool s, .int .i64 0]) ∧ w = w'
def CC (k n r : Int) : Prop := ∀ w, Calls Try.prog 32 #[.int .i64 k, .int .i64 n] w fun e w' => e = .returned (.tuple #[.int .i64 r, .int .i64 0]) ∧ w = w'
theorem CB.use {k v : Int} {s : Bool} (h : CB k v s) (w : World) : Calls Try.prog 31 #[.int .i64 k] w fun e w' => e = .returned (.tuple #[.int .i64 v, .bool s, .int .i64 0]) ∧ w = w' := h w
theorem CC.use {k n r : Int} (h : CC k n r) (w : World) : Calls Try.prog 32 #[.int .i64 k, .int .i64 n] w fun e w' => e = .returned (.tuple #[.int .i64 r, .int .i64 0]) ∧ w = w' := h w

theorem wrap_fewer (one two n : Int) (h : wd two ≤ wd one) : wrapK two (wrapK one n) = wrapK two n :=
  wrapK_congr two _ _ fun i hi => wrapK_bit one n i (by omega)
theorem wrap_clamp (k n : Int) (h0 : 0 ≤ k) (h7 : k ≤ 7) (hn : Fits n) : wrapK k (clampK k n) = clampK k n := by
  obtain ⟨f1, f2⟩ := hn
  have hc : k = 0 ∨ k = 1 ∨ k = 2 ∨ k = 3 ∨ k = 4 ∨ k = 5 ∨ k = 6 ∨ k = 7 := by omega
  rcases hc with rfl | rfl | rfl | rfl | rfl | rfl | rfl | rfl
  · have h1 : -128 ≤ clampK 0 n ∧ clampK 0 n ≤ 127 := by show -128 ≤ min (max n (-128)) 127 ∧ min (max n (-128)) 127 ≤ 127; omega
    rw [wrapK_0]; generalize clampK 0 n = c at *
    simp only [wrap64, IntKind.wrap, IntKind.bits, IntKind.signed]; simp; split <;> omega
  · have h1 : -32768 ≤ clampK 1 n ∧ clampK 1 n ≤ 32767 := by show -32768 ≤ min (max n (-32768)) 32767 ∧ min (max n (-32768)) 32767 ≤ 32767; omega
    rw [wrapK_1]; generalize clampK 1 n = c at *
    simp only [wrap64, IntKind.wrap, IntKind.bits, IntKind.signed]; simp; split <;> omega
  · have h1 : -2147483648 ≤ clampK 2 n ∧ clampK 2 n ≤ 2147483647 := by show -2147483648 ≤ min (max n (-2147483648)) 2147483647 ∧ min (max n (-2147483648)) 2147483647 ≤ 2147483647; omega
    rw [wrapK_2]; generalize clampK 2 n = c at *
    unfold wrap64 wrap32; omega
  · refine wrapK_3 _ ?_
    show Fits (min (max n (-9223372036854775808)) 9223372036854775807)
    unfold Fits; omega
  · have h1 : 0 ≤ clampK 4 n ∧ clampK 4 n ≤ 255 := by show 0 ≤ min (max n 0) 255 ∧ min (max n 0) 255 ≤ 255; omega
    rw [wrapK_4]; generalize clampK 4 n = c at *; omega
  · have h1 : 0 ≤ clampK 5 n ∧ clampK 5 n ≤ 65535 := by show 0 ≤ min (max n 0) 65535 ∧ min (max n 0) 65535 ≤ 65535; omega
    rw [wrapK_5]; generalize clampK 5 n = c at *
    simp only [wrap64, IntKind.wrap, IntKind.bits, IntKind.signed]; simp; omega
  · have h1 : 0 ≤ clampK 6 n ∧ clampK 6 n ≤ 4294967295 := by show 0 ≤ min (max n 0) 4294967295 ∧ min (max n 0) 4294967295 ≤ 4294967295; omega
    rw [wrapK_6]; generalize clampK 6 n = c at *; omega
  · refine wrapK_7 _ ?_
    show Fits (min (max n 0) 9223372036854775807)
    unfold Fits; omega
theorem clamp_fits (k n : Int) (h0 : 0 ≤ k) (h7 : k ≤ 7) (hn : Fits n) : Fits (clampK k n) := by
  rw [← wrap_clamp k n h0 h7 hn]; exact fits_wrapK _ _
theorem ends (k : Int) (h0 : 0 ≤ k) (h7 : k ≤ 7) : -9223372036854775808 ≤ loK k ∧ loK k ≤ hiK k ∧ hiK k ≤ 9223372036854775807 := by
  have hc : k = 0 ∨ k = 1 ∨ k = 2 ∨ k = 3 ∨ k = 4 ∨ k = 5 ∨ k = 6 ∨ k = 7 := by omega
  rcases hc with rfl | rfl | rfl | rfl | rfl | rfl | rfl | rfl <;> decide

theorem narrow_calls (one two n : Int) (a0 : 0 ≤ one) (a7 : one ≤ 7) (b0 : 0 ≤ two) (b7 : two ≤ 7) (hn : Fits n) :
    ∃ A B V W C LO HI : Int, ∃ S1 S2 : Bool, CW one n A ∧ CW two A B ∧ CB one V S1 ∧ CB two W S2 ∧ (W ≤ V → CW two n B) ∧ CW one A A ∧ CC one n C ∧ CW one C C ∧
      CC one (-9223372036854775808) LO ∧ CC one 9223372036854775807 HI ∧ ((C = n ∧ A = n ∧ LO ≤ C ∧ C ≤ HI) ∨ (n < LO ∧ C = LO) ∨ (LO ≤ HI ∧ HI < n ∧ C = HI)) := by
  obtain ⟨x1, x2, x3⟩ := ends one a0 a7
  have hlo : clampK one (-9223372036854775808) = loK one := by unfold clampK; omega
  have hhi : clampK one 9223372036854775807 = hiK one := by unfold clampK; omega
  refine ⟨wrapK one n, wrapK two (wrapK one n), (wd one : Nat), (wd two : Nat), clampK one n, loK one, hiK one, sgnB one, sgnB two, cw one n a0 a7 hn, cw two _ b0 b7 (fits_wrapK _ _),
    fun w => bits_ok one a0 a7 w, fun w => bits_ok two b0 b7 w, fun h => ?_, ?_, fun w => clamp_ok one n a0 a7 hn w, ?_, fun w => ?_, fun w => ?_, ?_⟩
  · rw [wrap_fewer one two n (by omega)]; exact cw two n b0 b7 hn
  · have := cw one (wrapK one n) a0 a7 (fits_wrapK _ _)
    rwa [wrapK_wrapK] at this
  · have := cw one (clampK one n) a0 a7 (clamp_fits one n a0 a7 hn)
    rwa [wrap_clamp one n a0 a7 hn] at this
  · rw [← hlo]; exact clamp_ok one _ a0 a7 (by unfold Fits; omega) w
  · rw [← hhi]; exact clamp_ok one _ a0 a7 (by unfold Fits; omega) w
  · by_cases e : clampK one n = n
    · refine .inl ⟨e, ?_, ?_⟩
      · have := wrap_clamp one n a0 a7 hn
        rwa [e] at this
      · unfold clampK; omega
    · refine .inr ?_
      unfold clampK at e ⊢; omega
end Go.Proofs.Ytdoaepopkdeonaa
