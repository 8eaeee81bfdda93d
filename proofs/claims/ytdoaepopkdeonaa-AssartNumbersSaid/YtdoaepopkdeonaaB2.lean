/-
  Conv: contracts of the program's Left, Right; of wraps.
-/
import Derived.Test.YtdoaepopkdeonaaB1
namespace Go.Proofs.Ytdoaepopkdeonaa
set_option linter.unusedVariables false
set_option linter.unusedSimpArgs false
open Go.RowKit

theorem fits_wrap64 (n : Int) : Fits (wrap64 n) := by unfold Fits wrap64; omega

set_option maxHeartbeats 800000 in
theorem left_neg (kind n m : Int) (h : m < 0) (w : World) :
    Calls Try.prog 13 #[.int .i64 kind, .int .i64 n, .int .i64 m] w fun e w' => e = .returned (.tuple #[.int .i64 0, .int .i64 1]) ∧ w = w' := by
  go_enter Try.func13, Try.ntmps13
  go_wp2
  go_ret2
  exact ⟨rfl, rfl⟩

set_option maxHeartbeats 800000 in
theorem left_no (kind n m : Int) (hk : kind < 0 ∨ 7 < kind) (h : 0 ≤ m) (w : World) :
    Calls Try.prog 13 #[.int .i64 kind, .int .i64 n, .int .i64 m] w fun e w' => e = .returned (.tuple #[.int .i64 0, .int .i64 1]) ∧ w = w' := by
  have HW := Lib.hid (fun n => wrap_no kind n hk)
  clear hk
  go_enter Try.func13, Try.ntmps13
  go_wp2_with (go_at_call 17; refine (HW.out _ _).mono ?_; rintro e w' ⟨rfl, rfl⟩)
  go_ret2
  exact ⟨rfl, rfl⟩

set_option maxHeartbeats 800000 in
theorem left_ok (kind n m : Int) (h0 : 0 ≤ kind) (h7 : kind ≤ 7) (h : 0 ≤ m) (hm : m ≤ 9223372036854775807) (w : World) :
    Calls Try.prog 13 #[.int .i64 kind, .int .i64 n, .int .i64 m] w fun e w' => e = .returned (.tuple #[.int .i64 (wrapK kind (wrap64 (n * 2 ^ min m.toNat 64))), .int .i64 0]) ∧ w = w' := by
  have HW := Lib.hid (fun n => wrap_ok kind (wrap64 n) h0 h7 (fits_wrap64 n))
  clear h0 h7
  go_enter Try.func13, Try.ntmps13
  go_wp2_with (go_at_call 17; refine (HW.out _ _).mono ?_; rintro e w' ⟨rfl, rfl⟩)
  go_ret2
  exact ⟨rfl, rfl⟩

set_option maxHeartbeats 800000 in
theorem right_neg (kind n m : Int) (h : m < 0) (w : World) :
    Calls Try.prog 15 #[.int .i64 kind, .int .i64 n, .int .i64 m] w fun e w' => e = .returned (.tuple #[.int .i64 0, .int .i64 1]) ∧ w = w' := by
  go_enter Try.func15, Try.ntmps15
  go_wp2
  go_ret2
  exact ⟨rfl, rfl⟩

set_option maxHeartbeats 800000 in
theorem right_no (kind n m : Int) (hk : kind < 0 ∨ 7 < kind) (h : 0 ≤ m) (hm : m ≤ 9223372036854775807) (w : World) :
    Calls Try.prog 15 #[.int .i64 kind, .int .i64 n, .int .i64 m] w fun e w' => e = .returned (.tuple #[.int .i64 0, .int .i64 1]) ∧ w = w' := by
  have HW := Lib.hid (fun n => wrap_no kind n hk)
  have k7 : (kind == 7) = false := by simp; omega
  clear hk
  go_enter Try.func15, Try.ntmps15
  go_wp2_with (go_at_call 17; refine (HW.out _ _).mono ?_; rintro e w' ⟨rfl, rfl⟩)
  go_ret2
  exact ⟨rfl, rfl⟩

/-- The answer of Right. -/
def rightK (kind n : Int) (m : Nat) : Int := if kind = 7 then wrap64 (IntKind.u64.wrap (wrapK kind n) / 2 ^ min m 64) else (wrapK kind n) / 2 ^ min m 64

set_option maxHeartbeats 800000 in
theorem right_ok (kind n m : Int) (h0 : 0 ≤ kind) (h7 : kind ≤ 7) (hn : Fits n) (h : 0 ≤ m) (hm : m ≤ 9223372036854775807) (w : World) :
    Calls Try.prog 15 #[.int .i64 kind, .int .i64 n, .int .i64 m] w fun e w' => e = .returned (.tuple #[.int .i64 (rightK kind n m.toNat), .int .i64 0]) ∧ w = w' := by
  have HW := Lib.hid (wrap_ok kind n h0 h7 hn)
  by_cases h7' : kind = 7
  · have HR : Hid (rightK kind n m.toNat = _) := Lib.hid (if_pos h7')
    rw [HR.out]
    subst h7'
    generalize wrapK 7 n = q at *
    clear hn HR h0 h7
    go_enter Try.func15, Try.ntmps15
    go_wp2_with (go_at_call 17; refine (HW.out _).mono ?_; rintro e w' ⟨rfl, rfl⟩)
    go_ret2
    exact ⟨rfl, rfl⟩
  · have HR : Hid (rightK kind n m.toNat = _) := Lib.hid (if_neg h7')
    rw [HR.out]
    have k7 : (kind == 7) = false := by simp; omega
    generalize wrapK kind n = q at *
    clear hn HR h0 h7 h7'
    go_enter Try.func15, Try.ntmps15
    go_wp2_with (go_at_call 17; refine (HW.out _).mono ?_; rintro e w' ⟨rfl, rfl⟩)
    go_ret2
    exact ⟨rfl, rfl⟩

theorem wrap_200 (w : World) : Calls Try.prog 17 #[.int .i64 0, .int .i64 200] w fun e w' => e = .returned (.tuple #[.int .i64 (-56), .int .i64 0]) ∧ w = w' := by
  have h := wrap_ok 0 200 (by decide) (by decide) (by unfold Fits; omega) w
  rwa [show wrapK 0 200 = -56 from by decide +kernel] at h
theorem left_129 (w : World) : Calls Try.prog 13 #[.int .i64 4, .int .i64 129, .int .i64 1] w fun e w' => e = .returned (.tuple #[.int .i64 2, .int .i64 0]) ∧ w = w' := by
  have h := left_ok 4 129 1 (by decide) (by decide) (by decide) (by decide) w
  rwa [show wrapK 4 (wrap64 (129 * 2 ^ min (Int.toNat 1) 64)) = 2 from by decide +kernel] at h

set_option maxHeartbeats 800000 in
theorem wraps_ok (w : World) : Calls Try.prog 16 #[] w fun e w' => e = .returned (.bool true) ∧ w = w' := by
  go_enter Try.func16, Try.ntmps16
  go_wp2_with (first
    | (go_at_call 17; refine (wrap_200 _).mono ?_; rintro e w' ⟨rfl, rfl⟩)
    | (go_at_call 13; refine (left_129 _).mono ?_; rintro e w' ⟨rfl, rfl⟩))
  go_ret
  exact ⟨rfl, rfl⟩
end Go.Proofs.Ytdoaepopkdeonaa
