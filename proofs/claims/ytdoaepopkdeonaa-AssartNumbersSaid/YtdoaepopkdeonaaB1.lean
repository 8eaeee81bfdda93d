/-
  Conv: contracts of the program's Wrap.
-/
import Derived.Test.YtdoaepopkdeonaaA6
namespace Go.Proofs.Ytdoaepopkdeonaa
set_option linter.unusedVariables false
set_option linter.unusedSimpArgs false
open Go.RowKit

def Fits (n : Int) : Prop := -9223372036854775808 ≤ n ∧ n ≤ 9223372036854775807
theorem fits_of_wf {n : Int} (h : (Lit.int .i64 n).wf = true) : Fits n := by
  simp [Lit.wf, IntKind.min, IntKind.max, IntKind.bits, IntKind.signed] at h
  unfold Fits; omega

/-- What is left of a number in a kind. -/
def wrapK (kind n : Int) : Int := tellK kind (wd kind) (U n % 2 ^ wd kind)

theorem wrapK_0 (n : Int) : wrapK 0 n = wrap64 (IntKind.i8.wrap n) := by
  simp [wrapK, tellK, wd, U, wrap64, IntKind.wrap, IntKind.bits, IntKind.signed]
  split <;> split <;> omega
theorem wrapK_1 (n : Int) : wrapK 1 n = wrap64 (IntKind.i16.wrap n) := by
  simp [wrapK, tellK, wd, U, wrap64, IntKind.wrap, IntKind.bits, IntKind.signed]
  split <;> split <;> omega
theorem wrapK_2 (n : Int) : wrapK 2 n = wrap64 (wrap32 n) := by
  simp [wrapK, tellK, wd, U, wrap64, wrap32, IntKind.wrap, IntKind.bits, IntKind.signed]
  split <;> omega
theorem wrapK_3 (n : Int) (h : Fits n) : wrapK 3 n = n := by
  unfold Fits at h
  simp [wrapK, tellK, wd, U, wrap64, IntKind.wrap, IntKind.bits, IntKind.signed]
  omega
theorem wrapK_4 (n : Int) : wrapK 4 n = n % 256 := by
  simp [wrapK, tellK, wd, U, wrap64, IntKind.wrap, IntKind.bits, IntKind.signed]
  omega
theorem wrapK_5 (n : Int) : wrapK 5 n = wrap64 (IntKind.u16.wrap n) := by
  simp [wrapK, tellK, wd, U, wrap64, IntKind.wrap, IntKind.bits, IntKind.signed]
  omega
theorem wrapK_6 (n : Int) : wrapK 6 n = n % 4294967296 := by
  simp [wrapK, tellK, wd, U, wrap64, IntKind.wrap, IntKind.bits, IntKind.signed]
  omega
theorem wrapK_7 (n : Int) (h : Fits n) : wrapK 7 n = n := by
  unfold Fits at h
  simp [wrapK, tellK, wd, U, wrap64, IntKind.wrap, IntKind.bits, IntKind.signed]
  omega

set_option maxHeartbeats 800000 in
theorem wrap_ok (kind n : Int) (h0 : 0 ≤ kind) (h7 : kind ≤ 7) (hn : Fits n) (w : World) :
    Calls Try.prog 17 #[.int .i64 kind, .int .i64 n] w fun e w' => e = .returned (.tuple #[.int .i64 (wrapK kind n), .int .i64 0]) ∧ w = w' := by
  have H3 := Lib.hid (wrapK_3 n hn)
  have H7 := Lib.hid (wrapK_7 n hn)
  clear hn
  have hc : kind = 0 ∨ kind = 1 ∨ kind = 2 ∨ kind = 3 ∨ kind = 4 ∨ kind = 5 ∨ kind = 6 ∨ kind = 7 := by omega
  rcases hc with rfl | rfl | rfl | rfl | rfl | rfl | rfl | rfl <;> clear h0 h7
  · rw [wrapK_0]; go_enter Try.func17, Try.ntmps17; go_wp2; go_ret2; exact ⟨rfl, rfl⟩
  · rw [wrapK_1]; go_enter Try.func17, Try.ntmps17; go_wp2; go_ret2; exact ⟨rfl, rfl⟩
  · rw [wrapK_2]; go_enter Try.func17, Try.ntmps17; go_wp2; go_ret2; exact ⟨rfl, rfl⟩
  · rw [H3.out]; go_enter Try.func17, Try.ntmps17; go_wp2; go_ret2; exact ⟨rfl, rfl⟩
  · rw [wrapK_4]; go_enter Try.func17, Try.ntmps17; go_wp2; go_ret2; exact ⟨rfl, rfl⟩
  · rw [wrapK_5]; go_enter Try.func17, Try.ntmps17; go_wp2; go_ret2; exact ⟨rfl, rfl⟩
  · rw [wrapK_6]; go_enter Try.func17, Try.ntmps17; go_wp2; go_ret2; exact ⟨rfl, rfl⟩
  · rw [H7.out]; go_enter Try.func17, Try.ntmps17; go_wp2; go_ret2; exact ⟨rfl, rfl⟩

set_option maxHeartbeats 800000 in
theorem wrap_no (kind n : Int) (h : kind < 0 ∨ 7 < kind) (w : World) :
    Calls Try.prog 17 #[.int .i64 kind, .int .i64 n] w fun e w' => e = .returned (.tuple #[.int .i64 0, .int .i64 1]) ∧ w = w' := by
  have k0 : (kind == 0) = false := by simp; omega
  have k1 : (kind == 1) = false := by simp; omega
  have k2 : (kind == 2) = false := by simp; omega
  have k3 : (kind == 3) = false := by simp; omega
  have k4 : (kind == 4) = false := by simp; omega
  have k5 : (kind == 5) = false := by simp; omega
  have k6 : (kind == 6) = false := by simp; omega
  have k7 : (kind == 7) = false := by simp; omega
  clear h
  go_enter Try.func17, Try.ntmps17
  go_wp2
  go_ret2
  exact ⟨rfl, rfl⟩
end Go.Proofs.Ytdoaepopkdeonaa
