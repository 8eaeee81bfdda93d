/-
  Conv: contracts of Bits and Clamp.
-/
import Derived.Test.YtdoaepopkdeonaaC5
namespace Go.Proofs.Ytdoaepopkdeonaa
set_option linter.unusedVariables false
set_option linter.unusedSimpArgs false
open Go.RowKit

def loK (k : Int) : Int := if k = 0 then -128 else if k = 1 then -32768 else if k = 2 then -2147483648 else if k = 3 then -9223372036854775808 else 0
def hiK (k : Int) : Int := if k = 0 then 127 else if k = 1 then 32767 else if k = 2 then 2147483647 else if k = 4 then 255 else if k = 5 then 65535 else if k = 6 then 4294967295 else 9223372036854775807
/-- The number of a kind that is nearest. -/
def clampK (k n : Int) : Int := min (max n (loK k)) (hiK k)
def sgnB (k : Int) : Bool := decide (k < 4)

set_option maxHeartbeats 800000 in
theorem bits_ok (kind : Int) (h0 : 0 ≤ kind) (h7 : kind ≤ 7) (w : World) :
    Calls Try.prog 31 #[.int .i64 kind] w fun e w' => e = .returned (.tuple #[.int .i64 (wd kind : Nat), .bool (sgnB kind), .int .i64 0]) ∧ w = w' := by
  have hc : kind = 0 ∨ kind = 1 ∨ kind = 2 ∨ kind = 3 ∨ kind = 4 ∨ kind = 5 ∨ kind = 6 ∨ kind = 7 := by omega
  rcases hc with rfl | rfl | rfl | rfl | rfl | rfl | rfl | rfl
  · have hb : bits .and .i64 0 3 = 0 := by decide +kernel
    go_enter Try.func31, Try.ntmps31
    go_wp2
    go_ret3
    exact ⟨rfl, rfl⟩
  · have hb : bits .and .i64 1 3 = 1 := by decide +kernel
    go_enter Try.func31, Try.ntmps31
    go_wp2
    go_ret3
    exact ⟨rfl, rfl⟩
  · have hb : bits .and .i64 2 3 = 2 := by decide +kernel
    go_enter Try.func31, Try.ntmps31
    go_wp2
    go_ret3
    exact ⟨rfl, rfl⟩
  · have hb : bits .and .i64 3 3 = 3 := by decide +kernel
    go_enter Try.func31, Try.ntmps31
    go_wp2
    go_ret3
    exact ⟨rfl, rfl⟩
  · have hb : bits .and .i64 4 3 = 0 := by decide +kernel
    go_enter Try.func31, Try.ntmps31
    go_wp2
    go_ret3
    exact ⟨rfl, rfl⟩
  · have hb : bits .and .i64 5 3 = 1 := by decide +kernel
    go_enter Try.func31, Try.ntmps31
    go_wp2
    go_ret3
    exact ⟨rfl, rfl⟩
  · have hb : bits .and .i64 6 3 = 2 := by decide +kernel
    go_enter Try.func31, Try.ntmps31
    go_wp2
    go_ret3
    exact ⟨rfl, rfl⟩
  · have hb : bits .and .i64 7 3 = 3 := by decide +kernel
    go_enter Try.func31, Try.ntmps31
    go_wp2
    go_ret3
    exact ⟨rfl, rfl⟩
set_option maxHeartbeats 800000 in
theorem bits_no (kind : Int) (h : kind < 0 ∨ 7 < kind) (w : World) :
    Calls Try.prog 31 #[.int .i64 kind] w fun e w' => e = .returned (.tuple #[.int .i64 0, .bool false, .int .i64 1]) ∧ w = w' := by
  rcases h with h | h
  · go_enter Try.func31, Try.ntmps31
    go_wp2
    go_ret3
    exact ⟨rfl, rfl⟩
  · have h2 : decide (kind < 0) = false := by simp; omega
    go_enter Try.func31, Try.ntmps31
    go_wp2
    go_ret3
    exact ⟨rfl, rfl⟩

set_option maxHeartbeats 800000 in
theorem clamp_no (kind n : Int) (h : kind < 0 ∨ 7 < kind) (w : World) :
    Calls Try.prog 32 #[.int .i64 kind, .int .i64 n] w fun e w' => e = .returned (.tuple #[.int .i64 0, .int .i64 1]) ∧ w = w' := by
  have k0 : (kind == 0) = false := by simp; omega
  have k1 : (kind == 1) = false := by simp; omega
  have k2 : (kind == 2) = false := by simp; omega
  have k3 : (kind == 3) = false := by simp; omega
  have k4 : (kind == 4) = false := by simp; omega
  have k5 : (kind == 5) = false := by simp; omega
  have k6 : (kind == 6) = false := by simp; omega
  have k7 : (kind == 7) = false := by simp; omega
  clear h
  go_enter Try.func32, Try.ntmps32
  go_wp2
  go_ret2
  exact ⟨rfl, rfl⟩
set_option maxHeartbeats 800000 in
theorem clamp_0 (n : Int) (hn : Fits n) (w : World) :
    Calls Try.prog 32 #[.int .i64 0, .int .i64 n] w fun e w' => e = .returned (.tuple #[.int .i64 (clampK 0 n), .int .i64 0]) ∧ w = w' := by
  obtain ⟨f1, f2⟩ := hn
  have hc : (n < -128) ∨ (127 < n) ∨ (-128 ≤ n ∧ n ≤ 127) := by omega
  rcases hc with h | h | h
  · have hv : clampK 0 n = -128 := by
      show min (max n (-128)) (127) = -128
      omega
    have HV := Lib.hid hv
    rw [HV.out]
    clear f1 f2 hv HV
    go_enter Try.func32, Try.ntmps32
    go_wp2
    go_ret2
    exact ⟨rfl, rfl⟩
  · have hv : clampK 0 n = 127 := by
      show min (max n (-128)) (127) = 127
      omega
    have HV := Lib.hid hv
    rw [HV.out]
    clear f1 f2 hv HV
    go_enter Try.func32, Try.ntmps32
    go_wp2
    go_ret2
    exact ⟨rfl, rfl⟩
  · have hv : clampK 0 n = n := by
      show min (max n (-128)) (127) = n
      omega
    have HV := Lib.hid hv
    rw [HV.out]
    clear f1 f2 hv HV
    obtain ⟨h1, h2⟩ := h
    go_enter Try.func32, Try.ntmps32
    go_wp2
    go_ret2
    exact ⟨rfl, rfl⟩
set_option maxHeartbeats 800000 in
theorem clamp_1 (n : Int) (hn : Fits n) (w : World) :
    Calls Try.prog 32 #[.int .i64 1, .int .i64 n] w fun e w' => e = .returned (.tuple #[.int .i64 (clampK 1 n), .int .i64 0]) ∧ w = w' := by
  obtain ⟨f1, f2⟩ := hn
  have hc : (n < -32768) ∨ (32767 < n) ∨ (-32768 ≤ n ∧ n ≤ 32767) := by omega
  rcases hc with h | h | h
  · have hv : clampK 1 n = -32768 := by
      show min (max n (-32768)) (32767) = -32768
      omega
    have HV := Lib.hid hv
    rw [HV.out]
    clear f1 f2 hv HV
    go_enter Try.func32, Try.ntmps32
    go_wp2
    go_ret2
    exact ⟨rfl, rfl⟩
  · have hv : clampK 1 n = 32767 := by
      show min (max n (-32768)) (32767) = 32767
      omega
    have HV := Lib.hid hv
    rw [HV.out]
    clear f1 f2 hv HV
    go_enter Try.func32, Try.ntmps32
    go_wp2
    go_ret2
    exact ⟨rfl, rfl⟩
  · have hv : clampK 1 n = n := by
      show min (max n (-32768)) (32767) = n
      omega
    have HV := Lib.hid hv
    rw [HV.out]
    clear f1 f2 hv HV
    obtain ⟨h1, h2⟩ := h
    go_enter Try.func32, Try.ntmps32
    go_wp2
    go_ret2
    exact ⟨rfl, rfl⟩
set_option maxHeartbeats 800000 in
theorem clamp_2 (n : Int) (hn : Fits n) (w : World) :
    Calls Try.prog 32 #[.int .i64 2, .int .i64 n] w fun e w' => e = .returned (.tuple #[.int .i64 (clampK 2 n), .int .i64 0]) ∧ w = w' := by
  obtain ⟨f1, f2⟩ := hn
  have hc : (n < -2147483648) ∨ (2147483647 < n) ∨ (-2147483648 ≤ n ∧ n ≤ 2147483647) := by omega
  rcases hc with h | h | h
  · have hv : clampK 2 n = -2147483648 := by
      show min (max n (-2147483648)) (2147483647) = -2147483648
      omega
    have HV := Lib.hid hv
    rw [HV.out]
    clear f1 f2 hv HV
    go_enter Try.func32, Try.ntmps32
    go_wp2
    go_ret2
    exact ⟨rfl, rfl⟩
  · have hv : clampK 2 n = 2147483647 := by
      show min (max n (-2147483648)) (2147483647) = 2147483647
      omega
    have HV := Lib.hid hv
    rw [HV.out]
    clear f1 f2 hv HV
    go_enter Try.func32, Try.ntmps32
    go_wp2
    go_ret2
    exact ⟨rfl, rfl⟩
  · have hv : clampK 2 n = n := by
      show min (max n (-2147483648)) (2147483647) = n
      omega
    have HV := Lib.hid hv
    rw [HV.out]
    clear f1 f2 hv HV
    obtain ⟨h1, h2⟩ := h
    go_enter Try.func32, Try.ntmps32
    go_wp2
    go_ret2
    exact ⟨rfl, rfl⟩
set_option maxHeartbeats 800000 in
theorem clamp_3 (n : Int) (hn : Fits n) (w : World) :
    Calls Try.prog 32 #[.int .i64 3, .int .i64 n] w fun e w' => e = .returned (.tuple #[.int .i64 (clampK 3 n), .int .i64 0]) ∧ w = w' := by
  obtain ⟨f1, f2⟩ := hn
  have hc : (True) := by exact trivial
  rcases hc with h
  · have hv : clampK 3 n = n := by
      show min (max n (-9223372036854775808)) (9223372036854775807) = n
      omega
    have HV := Lib.hid hv
    rw [HV.out]
    clear f1 f2 hv HV
    go_enter Try.func32, Try.ntmps32
    go_wp2
    go_ret2
    exact ⟨rfl, rfl⟩
set_option maxHeartbeats 800000 in
theorem clamp_4 (n : Int) (hn : Fits n) (w : World) :
    Calls Try.prog 32 #[.int .i64 4, .int .i64 n] w fun e w' => e = .returned (.tuple #[.int .i64 (clampK 4 n), .int .i64 0]) ∧ w = w' := by
  obtain ⟨f1, f2⟩ := hn
  have hc : (n < 0) ∨ (255 < n) ∨ (0 ≤ n ∧ n ≤ 255) := by omega
  rcases hc with h | h | h
  · have hv : clampK 4 n = 0 := by
      show min (max n (0)) (255) = 0
      omega
    have HV := Lib.hid hv
    rw [HV.out]
    clear f1 f2 hv HV
    go_enter Try.func32, Try.ntmps32
    go_wp2
    go_ret2
    exact ⟨rfl, rfl⟩
  · have hv : clampK 4 n = 255 := by
      show min (max n (0)) (255) = 255
      omega
    have HV := Lib.hid hv
    rw [HV.out]
    clear f1 f2 hv HV
    go_enter Try.func32, Try.ntmps32
    go_wp2
    go_ret2
    exact ⟨rfl, rfl⟩
  · have hv : clampK 4 n = n := by
      show min (max n (0)) (255) = n
      omega
    have HV := Lib.hid hv
    rw [HV.out]
    clear f1 f2 hv HV
    obtain ⟨h1, h2⟩ := h
    go_enter Try.func32, Try.ntmps32
    go_wp2
    go_ret2
    exact ⟨rfl, rfl⟩
set_option maxHeartbeats 800000 in
theorem clamp_5 (n : Int) (hn : Fits n) (w : World) :
    Calls Try.prog 32 #[.int .i64 5, .int .i64 n] w fun e w' => e = .returned (.tuple #[.int .i64 (clampK 5 n), .int .i64 0]) ∧ w = w' := by
  obtain ⟨f1, f2⟩ := hn
  have hc : (n < 0) ∨ (65535 < n) ∨ (0 ≤ n ∧ n ≤ 65535) := by omega
  rcases hc with h | h | h
  · have hv : clampK 5 n = 0 := by
      show min (max n (0)) (65535) = 0
      omega
    have HV := Lib.hid hv
    rw [HV.out]
    clear f1 f2 hv HV
    go_enter Try.func32, Try.ntmps32
    go_wp2
    go_ret2
    exact ⟨rfl, rfl⟩
  · have hv : clampK 5 n = 65535 := by
      show min (max n (0)) (65535) = 65535
      omega
    have HV := Lib.hid hv
    rw [HV.out]
    clear f1 f2 hv HV
    go_enter Try.func32, Try.ntmps32
    go_wp2
    go_ret2
    exact ⟨rfl, rfl⟩
  · have hv : clampK 5 n = n := by
      show min (max n (0)) (65535) = n
      omega
    have HV := Lib.hid hv
    rw [HV.out]
    clear f1 f2 hv HV
    obtain ⟨h1, h2⟩ := h
    go_enter Try.func32, Try.ntmps32
    go_wp2
    go_ret2
    exact ⟨rfl, rfl⟩
set_option maxHeartbeats 800000 in
theorem clamp_6 (n : Int) (hn : Fits n) (w : World) :
    Calls Try.prog 32 #[.int .i64 6, .int .i64 n] w fun e w' => e = .returned (.tuple #[.int .i64 (clampK 6 n), .int .i64 0]) ∧ w = w' := by
  obtain ⟨f1, f2⟩ := hn
  have hc : (n < 0) ∨ (4294967295 < n) ∨ (0 ≤ n ∧ n ≤ 4294967295) := by omega
  rcases hc with h | h | h
  · have hv : clampK 6 n = 0 := by
      show min (max n (0)) (4294967295) = 0
      omega
    have HV := Lib.hid hv
    rw [HV.out]
    clear f1 f2 hv HV
    go_enter Try.func32, Try.ntmps32
    go_wp2
    go_ret2
    exact ⟨rfl, rfl⟩
  · have hv : clampK 6 n = 4294967295 := by
      show min (max n (0)) (4294967295) = 4294967295
      omega
    have HV := Lib.hid hv
    rw [HV.out]
    clear f1 f2 hv HV
    go_enter Try.func32, Try.ntmps32
    go_wp2
    go_ret2
    exact ⟨rfl, rfl⟩
  · have hv : clampK 6 n = n := by
      show min (max n (0)) (4294967295) = n
      omega
    have HV := Lib.hid hv
    rw [HV.out]
    clear f1 f2 hv HV
    obtain ⟨h1, h2⟩ := h
    go_enter Try.func32, Try.ntmps32
    go_wp2
    go_ret2
    exact ⟨rfl, rfl⟩
set_option maxHeartbeats 800000 in
theorem clamp_7 (n : Int) (hn : Fits n) (w : World) :
    Calls Try.prog 32 #[.int .i64 7, .int .i64 n] w fun e w' => e = .returned (.tuple #[.int .i64 (clampK 7 n), .int .i64 0]) ∧ w = w' := by
  obtain ⟨f1, f2⟩ := hn
  have hc : (n < 0) ∨ (0 ≤ n) := by omega
  rcases hc with h | h
  · have hv : clampK 7 n = 0 := by
      show min (max n (0)) (9223372036854775807) = 0
      omega
    have HV := Lib.hid hv
    rw [HV.out]
    clear f1 f2 hv HV
    go_enter Try.func32, Try.ntmps32
    go_wp2
    go_ret2
    exact ⟨rfl, rfl⟩
  · have hv : clampK 7 n = n := by
      show min (max n (0)) (9223372036854775807) = n
      omega
    have HV := Lib.hid hv
    rw [HV.out]
    clear f1 f2 hv HV
    go_enter Try.func32, Try.ntmps32
    go_wp2
    go_ret2
    exact ⟨rfl, rfl⟩
theorem clamp_ok (kind n : Int) (h0 : 0 ≤ kind) (h7 : kind ≤ 7) (hn : Fits n) (w : World) :
    Calls Try.prog 32 #[.int .i64 kind, .int .i64 n] w fun e w' => e = .returned (.tuple #[.int .i64 (clampK kind n), .int .i64 0]) ∧ w = w' := by
  have hc : kind = 0 ∨ kind = 1 ∨ kind = 2 ∨ kind = 3 ∨ kind = 4 ∨ kind = 5 ∨ kind = 6 ∨ kind = 7 := by omega
  rcases hc with rfl | rfl | rfl | rfl | rfl | rfl | rfl | rfl
  · exact clamp_0 n hn w
  · exact clamp_1 n hn w
  · exact clamp_2 n hn w
  · exact clamp_3 n hn w
  · exact clamp_4 n hn w
  · exact clamp_5 n hn w
  · exact clamp_6 n hn w
  · exact clamp_7 n hn w
end Go.Proofs.Ytdoaepopkdeonaa
