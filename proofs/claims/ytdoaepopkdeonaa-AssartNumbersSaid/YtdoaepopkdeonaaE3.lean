/-
  Conv: contracts of the other rotations and of the program's Turn.
-/
import Derived.Test.YtdoaepopkdeonaaE2
namespace Go.Proofs.Ytdoaepopkdeonaa
set_option linter.unusedVariables false
set_option linter.unusedSimpArgs false
open Go.RowKit
set_option maxHeartbeats 800000 in
theorem rot16 (N : Nat) (m : Int) (hN : N ≤ 65535) (w : World) :
    Calls Try.prog 48 #[.int .u16 N, .int .i64 m] w fun e w' => e = .returned (.int .u16 (rotN N 16 (sN m 16) : Nat)) ∧ w = w' := by
  have h1 := and_s m 4 16 rfl (by decide)
  have h2 := rot_val .u16 16 rfl wraps_u16 N (sN m 16) (by omega)
  have h3 := sN_lt m 16 (by decide)
  generalize rotN N 16 (sN m 16) = R at *
  generalize sN m 16 = s at *
  have hw : IntKind.u16.wrap ((N : Int) * 2 ^ s) = (N : Int) * 2 ^ s % 2 ^ 16 := by simp [IntKind.wrap, IntKind.bits, IntKind.signed]
  rw [← hw] at h2
  simp only [Nat.reduceSub, Int.cast_ofNat_Int] at h1
  have H2 := Lib.hid h2
  rw [← H2.out]
  clear h2 hw
  go_enter Try.func48, Try.ntmps48
  go_wp2
  go_ret
  exact ⟨rfl, rfl⟩
set_option maxHeartbeats 800000 in
theorem rot32 (N : Nat) (m : Int) (hN : N ≤ 4294967295) (w : World) :
    Calls Try.prog 49 #[.int .u32 N, .int .i64 m] w fun e w' => e = .returned (.int .u32 (rotN N 32 (sN m 32) : Nat)) ∧ w = w' := by
  have h1 := and_s m 5 32 rfl (by decide)
  have h2 := rot_val .u32 32 rfl wraps_u32 N (sN m 32) (by omega)
  have h3 := sN_lt m 32 (by decide)
  generalize rotN N 32 (sN m 32) = R at *
  generalize sN m 32 = s at *
  have hw : IntKind.u32.wrap ((N : Int) * 2 ^ s) = (N : Int) * 2 ^ s % 2 ^ 32 := by simp [IntKind.wrap, IntKind.bits, IntKind.signed]
  rw [← hw] at h2
  simp only [Nat.reduceSub, Int.cast_ofNat_Int] at h1
  have H2 := Lib.hid h2
  rw [← H2.out]
  clear h2 hw
  go_enter Try.func49, Try.ntmps49
  go_wp2
  go_ret
  exact ⟨by first | rfl | (congr 3; simp [IntKind.wrap, IntKind.bits, IntKind.signed]), rfl⟩
set_option maxHeartbeats 800000 in
theorem rot64 (N : Nat) (m : Int) (hN : N ≤ 18446744073709551615) (w : World) :
    Calls Try.prog 50 #[.int .u64 N, .int .i64 m] w fun e w' => e = .returned (.int .u64 (rotN N 64 (sN m 64) : Nat)) ∧ w = w' := by
  have h1 := and_s m 6 64 rfl (by decide)
  have h2 := rot_val .u64 64 rfl wraps_u64 N (sN m 64) (by omega)
  have h3 := sN_lt m 64 (by decide)
  generalize rotN N 64 (sN m 64) = R at *
  generalize sN m 64 = s at *
  have hw : IntKind.u64.wrap ((N : Int) * 2 ^ s) = (N : Int) * 2 ^ s % 2 ^ 64 := by simp [IntKind.wrap, IntKind.bits, IntKind.signed]
  rw [← hw] at h2
  simp only [Nat.reduceSub, Int.cast_ofNat_Int] at h1
  have H2 := Lib.hid h2
  rw [← H2.out]
  clear h2 hw
  go_enter Try.func50, Try.ntmps50
  go_wp2
  go_ret
  exact ⟨rfl, rfl⟩

/-- Turn's answer. -/
def turnK (kind n m : Int) : Int := wrapK kind ((rotN (U n % 2 ^ wd kind) (wd kind) (sN m (wd kind)) : Nat) : Int)
theorem turn_no (kind n m : Int) (hk : kind < 0 ∨ 7 < kind) (w : World) :
    Calls Try.prog 29 #[.int .i64 kind, .int .i64 n, .int .i64 m] w fun e w' => e = .returned (.tuple #[.int .i64 0, .int .i64 1]) ∧ w = w' := by
  have HW := Lib.hid (bits_no kind hk)
  clear hk
  go_enter Try.func29, Try.ntmps29
  go_wp2_with (go_at_call 31; refine (HW.out _).mono ?_; rintro e w' ⟨rfl, rfl⟩)
  go_ret2
  exact ⟨rfl, rfl⟩
set_option maxHeartbeats 800000 in
theorem turn_0 (n m : Int) (w : World) :
    Calls Try.prog 29 #[.int .i64 0, .int .i64 n, .int .i64 m] w fun e w' => e = .returned (.tuple #[.int .i64 (turnK 0 n m), .int .i64 0]) ∧ w = w' := by
  have HB : Hid (∀ w : World, Calls Try.prog 31 #[.int .i64 0] w fun e w' => e = .returned (.tuple #[.int .i64 8, .bool true, .int .i64 0]) ∧ w = w') := Lib.hid (bits_ok 0 (by decide) (by decide))
  have hu : (n % 256 : Int) = ((U n % 2 ^ 8 : Nat) : Int) := by unfold U; omega
  have hlt : U n % 2 ^ 8 < 2 ^ 8 := Nat.mod_lt _ (by decide)
  have hr := rotN_lt (U n % 2 ^ 8) 8 (sN m 8) hlt
  have HR := Lib.hid (rot8 (U n % 2 ^ 8) (m.tmod 8) (by omega))
  rw [show sN (m.tmod 8) 8 = sN m 8 from sN_tmod m 8 (by decide)] at HR
  have ht : turnK 0 n m = wrapK 0 ((rotN (U n % 2 ^ 8) 8 (sN m 8) : Nat) : Int) := rfl
  rw [ht]
  clear ht
  generalize rotN (U n % 2 ^ 8) 8 (sN m 8) = R at *
  have hR : R ≤ 255 := by omega
  have HC : Hid (CW 0 (R : Int) (wrapK 0 (R : Int))) := Lib.hid (cw 0 _ (by decide) (by decide) (by unfold Fits; omega))
  generalize wrapK 0 (R : Int) = Z at *
  generalize U n % 2 ^ 8 = X at *
  clear hr hlt
  go_enter Try.func29, Try.ntmps29
  go_wp2_with (first
    | (go_at_call 31; refine (HB.out _).mono ?_; rintro e w' ⟨rfl, rfl⟩)
    | (go_at_call 47; refine (HR.out _).mono ?_; rintro e w' ⟨rfl, rfl⟩)
    | (go_at_call 17; refine (HC.out.use _).mono ?_; rintro e w' ⟨rfl, rfl⟩))
  go_ret2
  exact ⟨rfl, rfl⟩
set_option maxHeartbeats 800000 in
theorem turn_1 (n m : Int) (w : World) :
    Calls Try.prog 29 #[.int .i64 1, .int .i64 n, .int .i64 m] w fun e w' => e = .returned (.tuple #[.int .i64 (turnK 1 n m), .int .i64 0]) ∧ w = w' := by
  have HB : Hid (∀ w : World, Calls Try.prog 31 #[.int .i64 1] w fun e w' => e = .returned (.tuple #[.int .i64 16, .bool true, .int .i64 0]) ∧ w = w') := Lib.hid (bits_ok 1 (by decide) (by decide))
  have hu : (IntKind.u16.wrap n : Int) = ((U n % 2 ^ 16 : Nat) : Int) := by rw [IntKind.wrap_u16]; unfold U; omega
  have hlt : U n % 2 ^ 16 < 2 ^ 16 := Nat.mod_lt _ (by decide)
  have hr := rotN_lt (U n % 2 ^ 16) 16 (sN m 16) hlt
  have HR := Lib.hid (rot16 (U n % 2 ^ 16) (m.tmod 16) (by omega))
  rw [show sN (m.tmod 16) 16 = sN m 16 from sN_tmod m 16 (by decide)] at HR
  have ht : turnK 1 n m = wrapK 1 ((rotN (U n % 2 ^ 16) 16 (sN m 16) : Nat) : Int) := rfl
  rw [ht]
  clear ht
  generalize rotN (U n % 2 ^ 16) 16 (sN m 16) = R at *
  have hR : R ≤ 65535 := by omega
  have HC : Hid (CW 1 (R : Int) (wrapK 1 (R : Int))) := Lib.hid (cw 1 _ (by decide) (by decide) (by unfold Fits; omega))
  generalize wrapK 1 (R : Int) = Z at *
  generalize U n % 2 ^ 16 = X at *
  clear hr hlt
  go_enter Try.func29, Try.ntmps29
  go_wp2_with (first
    | (go_at_call 31; refine (HB.out _).mono ?_; rintro e w' ⟨rfl, rfl⟩)
    | (go_at_call 48; refine (HR.out _).mono ?_; rintro e w' ⟨rfl, rfl⟩)
    | (go_at_call 17; refine (HC.out.use _).mono ?_; rintro e w' ⟨rfl, rfl⟩))
  go_ret2
  exact ⟨rfl, rfl⟩
set_option maxHeartbeats 800000 in
theorem turn_2 (n m : Int) (w : World) :
    Calls Try.prog 29 #[.int .i64 2, .int .i64 n, .int .i64 m] w fun e w' => e = .returned (.tuple #[.int .i64 (turnK 2 n m), .int .i64 0]) ∧ w = w' := by
  have HB : Hid (∀ w : World, Calls Try.prog 31 #[.int .i64 2] w fun e w' => e = .returned (.tuple #[.int .i64 32, .bool true, .int .i64 0]) ∧ w = w') := Lib.hid (bits_ok 2 (by decide) (by decide))
  have hu : (n % 4294967296 : Int) = ((U n % 2 ^ 32 : Nat) : Int) := by unfold U; omega
  have hlt : U n % 2 ^ 32 < 2 ^ 32 := Nat.mod_lt _ (by decide)
  have hr := rotN_lt (U n % 2 ^ 32) 32 (sN m 32) hlt
  have HR := Lib.hid (rot32 (U n % 2 ^ 32) (m.tmod 32) (by omega))
  rw [show sN (m.tmod 32) 32 = sN m 32 from sN_tmod m 32 (by decide)] at HR
  have ht : turnK 2 n m = wrapK 2 ((rotN (U n % 2 ^ 32) 32 (sN m 32) : Nat) : Int) := rfl
  rw [ht]
  clear ht
  generalize rotN (U n % 2 ^ 32) 32 (sN m 32) = R at *
  have hR : R ≤ 4294967295 := by omega
  have HC : Hid (CW 2 (R : Int) (wrapK 2 (R : Int))) := Lib.hid (cw 2 _ (by decide) (by decide) (by unfold Fits; omega))
  generalize wrapK 2 (R : Int) = Z at *
  generalize U n % 2 ^ 32 = X at *
  clear hr hlt
  go_enter Try.func29, Try.ntmps29
  go_wp2_with (first
    | (go_at_call 31; refine (HB.out _).mono ?_; rintro e w' ⟨rfl, rfl⟩)
    | (go_at_call 49; refine (HR.out _).mono ?_; rintro e w' ⟨rfl, rfl⟩)
    | (go_at_call 17; refine (HC.out.use _).mono ?_; rintro e w' ⟨rfl, rfl⟩))
  go_ret2
  exact ⟨rfl, rfl⟩
set_option maxHeartbeats 800000 in
theorem turn_3 (n m : Int) (w : World) :
    Calls Try.prog 29 #[.int .i64 3, .int .i64 n, .int .i64 m] w fun e w' => e = .returned (.tuple #[.int .i64 (turnK 3 n m), .int .i64 0]) ∧ w = w' := by
  have HB : Hid (∀ w : World, Calls Try.prog 31 #[.int .i64 3] w fun e w' => e = .returned (.tuple #[.int .i64 64, .bool true, .int .i64 0]) ∧ w = w') := Lib.hid (bits_ok 3 (by decide) (by decide))
  have hu : (IntKind.u64.wrap n : Int) = ((U n % 2 ^ 64 : Nat) : Int) := by rw [IntKind.wrap_u64]; unfold U; omega
  have hlt : U n % 2 ^ 64 < 2 ^ 64 := Nat.mod_lt _ (by decide)
  have hr := rotN_lt (U n % 2 ^ 64) 64 (sN m 64) hlt
  have HR := Lib.hid (rot64 (U n % 2 ^ 64) (m.tmod 64) (by omega))
  rw [show sN (m.tmod 64) 64 = sN m 64 from sN_tmod m 64 (by decide)] at HR
  have ht : turnK 3 n m = wrapK 3 ((rotN (U n % 2 ^ 64) 64 (sN m 64) : Nat) : Int) := rfl
  rw [ht]
  clear ht
  generalize rotN (U n % 2 ^ 64) 64 (sN m 64) = R at *
  have hR : R ≤ 18446744073709551615 := by omega
  have HC : Hid (CW 3 (wrap64 (R : Int)) (wrapK 3 (R : Int))) := Lib.hid (by rw [← wrapK_wrap64]; exact cw 3 _ (by decide) (by decide) (fits_wrap64 _))
  generalize wrapK 3 (R : Int) = Z at *
  generalize U n % 2 ^ 64 = X at *
  clear hr hlt
  go_enter Try.func29, Try.ntmps29
  go_wp2_with (first
    | (go_at_call 31; refine (HB.out _).mono ?_; rintro e w' ⟨rfl, rfl⟩)
    | (go_at_call 50; refine (HR.out _).mono ?_; rintro e w' ⟨rfl, rfl⟩)
    | (go_at_call 17; refine (HC.out.use _).mono ?_; rintro e w' ⟨rfl, rfl⟩))
  go_ret2
  exact ⟨rfl, rfl⟩
set_option maxHeartbeats 800000 in
theorem turn_4 (n m : Int) (w : World) :
    Calls Try.prog 29 #[.int .i64 4, .int .i64 n, .int .i64 m] w fun e w' => e = .returned (.tuple #[.int .i64 (turnK 4 n m), .int .i64 0]) ∧ w = w' := by
  have HB : Hid (∀ w : World, Calls Try.prog 31 #[.int .i64 4] w fun e w' => e = .returned (.tuple #[.int .i64 8, .bool false, .int .i64 0]) ∧ w = w') := Lib.hid (bits_ok 4 (by decide) (by decide))
  have hu : (n % 256 : Int) = ((U n % 2 ^ 8 : Nat) : Int) := by unfold U; omega
  have hlt : U n % 2 ^ 8 < 2 ^ 8 := Nat.mod_lt _ (by decide)
  have hr := rotN_lt (U n % 2 ^ 8) 8 (sN m 8) hlt
  have HR := Lib.hid (rot8 (U n % 2 ^ 8) (m.tmod 8) (by omega))
  rw [show sN (m.tmod 8) 8 = sN m 8 from sN_tmod m 8 (by decide)] at HR
  have ht : turnK 4 n m = wrapK 4 ((rotN (U n % 2 ^ 8) 8 (sN m 8) : Nat) : Int) := rfl
  rw [ht]
  clear ht
  generalize rotN (U n % 2 ^ 8) 8 (sN m 8) = R at *
  have hR : R ≤ 255 := by omega
  have HC : Hid (CW 4 (R : Int) (wrapK 4 (R : Int))) := Lib.hid (cw 4 _ (by decide) (by decide) (by unfold Fits; omega))
  generalize wrapK 4 (R : Int) = Z at *
  generalize U n % 2 ^ 8 = X at *
  clear hr hlt
  go_enter Try.func29, Try.ntmps29
  go_wp2_with (first
    | (go_at_call 31; refine (HB.out _).mono ?_; rintro e w' ⟨rfl, rfl⟩)
    | (go_at_call 47; refine (HR.out _).mono ?_; rintro e w' ⟨rfl, rfl⟩)
    | (go_at_call 17; refine (HC.out.use _).mono ?_; rintro e w' ⟨rfl, rfl⟩))
  go_ret2
  exact ⟨rfl, rfl⟩
set_option maxHeartbeats 800000 in
theorem turn_5 (n m : Int) (w : World) :
    Calls Try.prog 29 #[.int .i64 5, .int .i64 n, .int .i64 m] w fun e w' => e = .returned (.tuple #[.int .i64 (turnK 5 n m), .int .i64 0]) ∧ w = w' := by
  have HB : Hid (∀ w : World, Calls Try.prog 31 #[.int .i64 5] w fun e w' => e = .returned (.tuple #[.int .i64 16, .bool false, .int .i64 0]) ∧ w = w') := Lib.hid (bits_ok 5 (by decide) (by decide))
  have hu : (IntKind.u16.wrap n : Int) = ((U n % 2 ^ 16 : Nat) : Int) := by rw [IntKind.wrap_u16]; unfold U; omega
  have hlt : U n % 2 ^ 16 < 2 ^ 16 := Nat.mod_lt _ (by decide)
  have hr := rotN_lt (U n % 2 ^ 16) 16 (sN m 16) hlt
  have HR := Lib.hid (rot16 (U n % 2 ^ 16) (m.tmod 16) (by omega))
  rw [show sN (m.tmod 16) 16 = sN m 16 from sN_tmod m 16 (by decide)] at HR
  have ht : turnK 5 n m = wrapK 5 ((rotN (U n % 2 ^ 16) 16 (sN m 16) : Nat) : Int) := rfl
  rw [ht]
  clear ht
  generalize rotN (U n % 2 ^ 16) 16 (sN m 16) = R at *
  have hR : R ≤ 65535 := by omega
  have HC : Hid (CW 5 (R : Int) (wrapK 5 (R : Int))) := Lib.hid (cw 5 _ (by decide) (by decide) (by unfold Fits; omega))
  generalize wrapK 5 (R : Int) = Z at *
  generalize U n % 2 ^ 16 = X at *
  clear hr hlt
  go_enter Try.func29, Try.ntmps29
  go_wp2_with (first
    | (go_at_call 31; refine (HB.out _).mono ?_; rintro e w' ⟨rfl, rfl⟩)
    | (go_at_call 48; refine (HR.out _).mono ?_; rintro e w' ⟨rfl, rfl⟩)
    | (go_at_call 17; refine (HC.out.use _).mono ?_; rintro e w' ⟨rfl, rfl⟩))
  go_ret2
  exact ⟨rfl, rfl⟩
set_option maxHeartbeats 800000 in
theorem turn_6 (n m : Int) (w : World) :
    Calls Try.prog 29 #[.int .i64 6, .int .i64 n, .int .i64 m] w fun e w' => e = .returned (.tuple #[.int .i64 (turnK 6 n m), .int .i64 0]) ∧ w = w' := by
  have HB : Hid (∀ w : World, Calls Try.prog 31 #[.int .i64 6] w fun e w' => e = .returned (.tuple #[.int .i64 32, .bool false, .int .i64 0]) ∧ w = w') := Lib.hid (bits_ok 6 (by decide) (by decide))
  have hu : (n % 4294967296 : Int) = ((U n % 2 ^ 32 : Nat) : Int) := by unfold U; omega
  have hlt : U n % 2 ^ 32 < 2 ^ 32 := Nat.mod_lt _ (by decide)
  have hr := rotN_lt (U n % 2 ^ 32) 32 (sN m 32) hlt
  have HR := Lib.hid (rot32 (U n % 2 ^ 32) (m.tmod 32) (by omega))
  rw [show sN (m.tmod 32) 32 = sN m 32 from sN_tmod m 32 (by decide)] at HR
  have ht : turnK 6 n m = wrapK 6 ((rotN (U n % 2 ^ 32) 32 (sN m 32) : Nat) : Int) := rfl
  rw [ht]
  clear ht
  generalize rotN (U n % 2 ^ 32) 32 (sN m 32) = R at *
  have hR : R ≤ 4294967295 := by omega
  have HC : Hid (CW 6 (R : Int) (wrapK 6 (R : Int))) := Lib.hid (cw 6 _ (by decide) (by decide) (by unfold Fits; omega))
  generalize wrapK 6 (R : Int) = Z at *
  generalize U n % 2 ^ 32 = X at *
  clear hr hlt
  go_enter Try.func29, Try.ntmps29
  go_wp2_with (first
    | (go_at_call 31; refine (HB.out _).mono ?_; rintro e w' ⟨rfl, rfl⟩)
    | (go_at_call 49; refine (HR.out _).mono ?_; rintro e w' ⟨rfl, rfl⟩)
    | (go_at_call 17; refine (HC.out.use _).mono ?_; rintro e w' ⟨rfl, rfl⟩))
  go_ret2
  exact ⟨rfl, rfl⟩
set_option maxHeartbeats 800000 in
theorem turn_7 (n m : Int) (w : World) :
    Calls Try.prog 29 #[.int .i64 7, .int .i64 n, .int .i64 m] w fun e w' => e = .returned (.tuple #[.int .i64 (turnK 7 n m), .int .i64 0]) ∧ w = w' := by
  have HB : Hid (∀ w : World, Calls Try.prog 31 #[.int .i64 7] w fun e w' => e = .returned (.tuple #[.int .i64 64, .bool false, .int .i64 0]) ∧ w = w') := Lib.hid (bits_ok 7 (by decide) (by decide))
  have hu : (IntKind.u64.wrap n : Int) = ((U n % 2 ^ 64 : Nat) : Int) := by rw [IntKind.wrap_u64]; unfold U; omega
  have hlt : U n % 2 ^ 64 < 2 ^ 64 := Nat.mod_lt _ (by decide)
  have hr := rotN_lt (U n % 2 ^ 64) 64 (sN m 64) hlt
  have HR := Lib.hid (rot64 (U n % 2 ^ 64) (m.tmod 64) (by omega))
  rw [show sN (m.tmod 64) 64 = sN m 64 from sN_tmod m 64 (by decide)] at HR
  have ht : turnK 7 n m = wrapK 7 ((rotN (U n % 2 ^ 64) 64 (sN m 64) : Nat) : Int) := rfl
  rw [ht]
  clear ht
  generalize rotN (U n % 2 ^ 64) 64 (sN m 64) = R at *
  have hR : R ≤ 18446744073709551615 := by omega
  have HC : Hid (CW 7 (wrap64 (R : Int)) (wrapK 7 (R : Int))) := Lib.hid (by rw [← wrapK_wrap64]; exact cw 7 _ (by decide) (by decide) (fits_wrap64 _))
  generalize wrapK 7 (R : Int) = Z at *
  generalize U n % 2 ^ 64 = X at *
  clear hr hlt
  go_enter Try.func29, Try.ntmps29
  go_wp2_with (first
    | (go_at_call 31; refine (HB.out _).mono ?_; rintro e w' ⟨rfl, rfl⟩)
    | (go_at_call 50; refine (HR.out _).mono ?_; rintro e w' ⟨rfl, rfl⟩)
    | (go_at_call 17; refine (HC.out.use _).mono ?_; rintro e w' ⟨rfl, rfl⟩))
  go_ret2
  exact ⟨rfl, rfl⟩
theorem turn_ok (kind n m : Int) (h0 : 0 ≤ kind) (h7 : kind ≤ 7) (w : World) :
    Calls Try.prog 29 #[.int .i64 kind, .int .i64 n, .int .i64 m] w fun e w' => e = .returned (.tuple #[.int .i64 (turnK kind n m), .int .i64 0]) ∧ w = w' := by
  have hc : kind = 0 ∨ kind = 1 ∨ kind = 2 ∨ kind = 3 ∨ kind = 4 ∨ kind = 5 ∨ kind = 6 ∨ kind = 7 := by omega
  rcases hc with rfl | rfl | rfl | rfl | rfl | rfl | rfl | rfl
  · exact turn_0 n m w
  · exact turn_1 n m w
  · exact turn_2 n m w
  · exact turn_3 n m w
  · exact turn_4 n m w
  · exact turn_5 n m w
  · exact turn_6 n m w
  · exact turn_7 n m w
end Go.Proofs.Ytdoaepopkdeonaa
