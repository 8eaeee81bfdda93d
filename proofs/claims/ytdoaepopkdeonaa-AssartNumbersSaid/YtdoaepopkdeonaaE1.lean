/-
  Conv: contracts of DocWrap and DocClamp.
-/
import Derived.Test.YtdoaepopkdeonaaD5
namespace Go.Proofs.Ytdoaepopkdeonaa
set_option linter.unusedVariables false
set_option linter.unusedSimpArgs false
open Go.RowKit

set_option maxHeartbeats 800000 in
theorem docWrap_ok (kind n : Int) (h0 : 0 ≤ kind) (h7 : kind ≤ 7) (w : World) :
    Calls Try.prog 33 #[.int .i64 kind, .int .i64 n] w fun e w' => e = .returned (.tuple #[.int .i64 (wrapK kind n), .int .i64 0]) ∧ Below w.heap.size w w' := by
  have HWD := Lib.hid (width_ok kind h0 h7)
  have hv : tellK kind (wd kind) (wholeN (listB (U n).testBit (wd kind))) = wrapK kind n := tell_eq kind n _ fun i _ => rfl
  obtain ⟨hwd1, hwd2⟩ := wd_bd kind
  rw [← hv]
  clear hv h0 h7
  generalize wd kind = b at *
  have HS := Lib.hid (split_own (U n) b (U_le n) hwd2 (by omega))
  rw [← U_wrap] at HS
  have hbz : ((b : Int) == 0) = false := by simp; omega
  go_enter Try.func33, Try.ntmps33
  go_wp2_with (go_at_call 36; refine (HWD.out _).mono ?_; rintro e w1 ⟨rfl, hb1⟩)
  refine (HS.out _).mono ?_
  rintro e w2 ⟨g, cap, rfl, hown, hc1, hc2, hb2⟩
  have HT := Lib.hid (told_any kind _ _ b w2 _ (by omega) hwd2 hown)
  clear hown hc1 hc2
  go_wp2_with (go_at_call 39; refine (HT.out).mono ?_; rintro e w' ⟨rfl, hb3⟩)
  go_ret2
  exact ⟨rfl, below_trans (below_trans hb1 hb2) hb3⟩
set_option maxHeartbeats 800000 in
theorem docWrap_no (kind n : Int) (hk : kind < 0 ∨ 7 < kind) (w : World) :
    Calls Try.prog 33 #[.int .i64 kind, .int .i64 n] w fun e w' => e = .returned (.tuple #[.int .i64 0, .int .i64 1]) ∧ Below w.heap.size w w' := by
  have HW := Lib.hid (width_no kind hk)
  clear hk
  go_enter Try.func33, Try.ntmps33
  go_wp2_with (go_at_call 36; refine (HW.out _).mono ?_; rintro e w' ⟨rfl, rfl⟩)
  go_ret2
  exact ⟨rfl, Below.refl _ _⟩
set_option maxHeartbeats 800000 in
theorem docClamp_no (kind n : Int) (hk : kind < 0 ∨ 7 < kind) (w : World) :
    Calls Try.prog 34 #[.int .i64 kind, .int .i64 n] w fun e w' => e = .returned (.tuple #[.int .i64 0, .int .i64 1]) ∧ Below w.heap.size w w' := by
  have HW := Lib.hid (width_no kind hk)
  clear hk
  go_enter Try.func34, Try.ntmps34
  go_wp2_with (go_at_call 36; refine (HW.out _).mono ?_; rintro e w' ⟨rfl, rfl⟩)
  go_ret2
  exact ⟨rfl, Below.refl _ _⟩
theorem pow_next (k : Nat) (h : 1 ≤ k) : 2 ^ (k + 1 - 1) = 2 * 2 ^ (k - 1) := by rw [← Nat.pow_succ']; congr 1; omega
set_option maxHeartbeats 1600000 in
theorem docClamp_0 (n : Int) (hn : Fits n) (w : World) :
    Calls Try.prog 34 #[.int .i64 0, .int .i64 n] w fun e w' => e = .returned (.tuple #[.int .i64 (clampK 0 n), .int .i64 0]) ∧ Below w.heap.size w w' := by
  obtain ⟨f1, f2⟩ := hn
  have HWD : Hid (∀ w : World, Calls Try.prog 36 #[.int .i64 0] w fun e w' => e = .returned (.int .i64 8) ∧ Below w.heap.size w w') := Lib.hid (width_ok 0 (by decide) (by decide))
  have hc : (n < -128) ∨ (127 < n) ∨ (-128 ≤ n ∧ n ≤ 127) := by omega
  rcases hc with h | h | h
  · have hv : clampK 0 n = -128 := by
      show min (max n (-128)) (127) = -128
      omega
    have HV := Lib.hid hv
    rw [HV.out]
    clear f1 f2 hv HV
    go_enter Try.func34, Try.ntmps34
    go_wp2_with (go_at_call 36; refine (HWD.out _).mono ?_; rintro e w1 ⟨rfl, hb1⟩)
    go_loop [7, 8] (fun f i => ∃ k : Nat, 1 ≤ k ∧ k ≤ 8 ∧ i = .int .i64 k ∧ f = .int .i64 (2 ^ (k - 1) : Nat)) (fun _ i => 8 - (intOf i).toNat)
    case atStart => exact ⟨1, by decide, by decide, rfl, rfl⟩
    case round =>
      obtain ⟨k, hk1, hk, rfl, rfl⟩ := hrel
      by_cases hlt : k < 8
      · have hq : 2 ^ (k - 1) ≤ 2 ^ 31 := Nat.pow_le_pow_right (by decide) (by omega)
        have hn := pow_next k hk1
        have HN := Lib.hid hn
        clear hn
        generalize 2 ^ (k - 1) = q at *
        have hq2 : (q : Int) ≤ 2147483648 := by omega
        clear hq
        go_wp2
        go_round
        case rel => exact ⟨k + 1, by omega, by omega, by go_num, by rw [HN.out]; go_num⟩
        case measure => simp [intOf]; omega
      · have : k = 8 := by omega
        subst this
        go_wp2
        go_ret2
        exact ⟨rfl, hb1⟩
  · have hv : clampK 0 n = 127 := by
      show min (max n (-128)) (127) = 127
      omega
    have HV := Lib.hid hv
    rw [HV.out]
    clear f1 f2 hv HV
    go_enter Try.func34, Try.ntmps34
    go_wp2_with (go_at_call 36; refine (HWD.out _).mono ?_; rintro e w1 ⟨rfl, hb1⟩)
    go_loop [7, 8] (fun f i => ∃ k : Nat, 1 ≤ k ∧ k ≤ 8 ∧ i = .int .i64 k ∧ f = .int .i64 (2 ^ (k - 1) : Nat)) (fun _ i => 8 - (intOf i).toNat)
    case atStart => exact ⟨1, by decide, by decide, rfl, rfl⟩
    case round =>
      obtain ⟨k, hk1, hk, rfl, rfl⟩ := hrel
      by_cases hlt : k < 8
      · have hq : 2 ^ (k - 1) ≤ 2 ^ 31 := Nat.pow_le_pow_right (by decide) (by omega)
        have hn := pow_next k hk1
        have HN := Lib.hid hn
        clear hn
        generalize 2 ^ (k - 1) = q at *
        have hq2 : (q : Int) ≤ 2147483648 := by omega
        clear hq
        go_wp2
        go_round
        case rel => exact ⟨k + 1, by omega, by omega, by go_num, by rw [HN.out]; go_num⟩
        case measure => simp [intOf]; omega
      · have : k = 8 := by omega
        subst this
        go_wp2
        go_ret2
        exact ⟨rfl, hb1⟩
  · have hv : clampK 0 n = n := by
      show min (max n (-128)) (127) = n
      omega
    have HV := Lib.hid hv
    rw [HV.out]
    clear f1 f2 hv HV
    obtain ⟨h1, h2⟩ := h
    go_enter Try.func34, Try.ntmps34
    go_wp2_with (go_at_call 36; refine (HWD.out _).mono ?_; rintro e w1 ⟨rfl, hb1⟩)
    go_loop [7, 8] (fun f i => ∃ k : Nat, 1 ≤ k ∧ k ≤ 8 ∧ i = .int .i64 k ∧ f = .int .i64 (2 ^ (k - 1) : Nat)) (fun _ i => 8 - (intOf i).toNat)
    case atStart => exact ⟨1, by decide, by decide, rfl, rfl⟩
    case round =>
      obtain ⟨k, hk1, hk, rfl, rfl⟩ := hrel
      by_cases hlt : k < 8
      · have hq : 2 ^ (k - 1) ≤ 2 ^ 31 := Nat.pow_le_pow_right (by decide) (by omega)
        have hn := pow_next k hk1
        have HN := Lib.hid hn
        clear hn
        generalize 2 ^ (k - 1) = q at *
        have hq2 : (q : Int) ≤ 2147483648 := by omega
        clear hq
        go_wp2
        go_round
        case rel => exact ⟨k + 1, by omega, by omega, by go_num, by rw [HN.out]; go_num⟩
        case measure => simp [intOf]; omega
      · have : k = 8 := by omega
        subst this
        go_wp2
        go_ret2
        exact ⟨rfl, hb1⟩
set_option maxHeartbeats 1600000 in
theorem docClamp_1 (n : Int) (hn : Fits n) (w : World) :
    Calls Try.prog 34 #[.int .i64 1, .int .i64 n] w fun e w' => e = .returned (.tuple #[.int .i64 (clampK 1 n), .int .i64 0]) ∧ Below w.heap.size w w' := by
  obtain ⟨f1, f2⟩ := hn
  have HWD : Hid (∀ w : World, Calls Try.prog 36 #[.int .i64 1] w fun e w' => e = .returned (.int .i64 16) ∧ Below w.heap.size w w') := Lib.hid (width_ok 1 (by decide) (by decide))
  have hc : (n < -32768) ∨ (32767 < n) ∨ (-32768 ≤ n ∧ n ≤ 32767) := by omega
  rcases hc with h | h | h
  · have hv : clampK 1 n = -32768 := by
      show min (max n (-32768)) (32767) = -32768
      omega
    have HV := Lib.hid hv
    rw [HV.out]
    clear f1 f2 hv HV
    go_enter Try.func34, Try.ntmps34
    go_wp2_with (go_at_call 36; refine (HWD.out _).mono ?_; rintro e w1 ⟨rfl, hb1⟩)
    go_loop [7, 8] (fun f i => ∃ k : Nat, 1 ≤ k ∧ k ≤ 16 ∧ i = .int .i64 k ∧ f = .int .i64 (2 ^ (k - 1) : Nat)) (fun _ i => 16 - (intOf i).toNat)
    case atStart => exact ⟨1, by decide, by decide, rfl, rfl⟩
    case round =>
      obtain ⟨k, hk1, hk, rfl, rfl⟩ := hrel
      by_cases hlt : k < 16
      · have hq : 2 ^ (k - 1) ≤ 2 ^ 31 := Nat.pow_le_pow_right (by decide) (by omega)
        have hn := pow_next k hk1
        have HN := Lib.hid hn
        clear hn
        generalize 2 ^ (k - 1) = q at *
        have hq2 : (q : Int) ≤ 2147483648 := by omega
        clear hq
        go_wp2
        go_round
        case rel => exact ⟨k + 1, by omega, by omega, by go_num, by rw [HN.out]; go_num⟩
        case measure => simp [intOf]; omega
      · have : k = 16 := by omega
        subst this
        go_wp2
        go_ret2
        exact ⟨rfl, hb1⟩
  · have hv : clampK 1 n = 32767 := by
      show min (max n (-32768)) (32767) = 32767
      omega
    have HV := Lib.hid hv
    rw [HV.out]
    clear f1 f2 hv HV
    go_enter Try.func34, Try.ntmps34
    go_wp2_with (go_at_call 36; refine (HWD.out _).mono ?_; rintro e w1 ⟨rfl, hb1⟩)
    go_loop [7, 8] (fun f i => ∃ k : Nat, 1 ≤ k ∧ k ≤ 16 ∧ i = .int .i64 k ∧ f = .int .i64 (2 ^ (k - 1) : Nat)) (fun _ i => 16 - (intOf i).toNat)
    case atStart => exact ⟨1, by decide, by decide, rfl, rfl⟩
    case round =>
      obtain ⟨k, hk1, hk, rfl, rfl⟩ := hrel
      by_cases hlt : k < 16
      · have hq : 2 ^ (k - 1) ≤ 2 ^ 31 := Nat.pow_le_pow_right (by decide) (by omega)
        have hn := pow_next k hk1
        have HN := Lib.hid hn
        clear hn
        generalize 2 ^ (k - 1) = q at *
        have hq2 : (q : Int) ≤ 2147483648 := by omega
        clear hq
        go_wp2
        go_round
        case rel => exact ⟨k + 1, by omega, by omega, by go_num, by rw [HN.out]; go_num⟩
        case measure => simp [intOf]; omega
      · have : k = 16 := by omega
        subst this
        go_wp2
        go_ret2
        exact ⟨rfl, hb1⟩
  · have hv : clampK 1 n = n := by
      show min (max n (-32768)) (32767) = n
      omega
    have HV := Lib.hid hv
    rw [HV.out]
    clear f1 f2 hv HV
    obtain ⟨h1, h2⟩ := h
    go_enter Try.func34, Try.ntmps34
    go_wp2_with (go_at_call 36; refine (HWD.out _).mono ?_; rintro e w1 ⟨rfl, hb1⟩)
    go_loop [7, 8] (fun f i => ∃ k : Nat, 1 ≤ k ∧ k ≤ 16 ∧ i = .int .i64 k ∧ f = .int .i64 (2 ^ (k - 1) : Nat)) (fun _ i => 16 - (intOf i).toNat)
    case atStart => exact ⟨1, by decide, by decide, rfl, rfl⟩
    case round =>
      obtain ⟨k, hk1, hk, rfl, rfl⟩ := hrel
      by_cases hlt : k < 16
      · have hq : 2 ^ (k - 1) ≤ 2 ^ 31 := Nat.pow_le_pow_right (by decide) (by omega)
        have hn := pow_next k hk1
        have HN := Lib.hid hn
        clear hn
        generalize 2 ^ (k - 1) = q at *
        have hq2 : (q : Int) ≤ 2147483648 := by omega
        clear hq
        go_wp2
        go_round
        case rel => exact ⟨k + 1, by omega, by omega, by go_num, by rw [HN.out]; go_num⟩
        case measure => simp [intOf]; omega
      · have : k = 16 := by omega
        subst this
        go_wp2
        go_ret2
        exact ⟨rfl, hb1⟩
set_option maxHeartbeats 1600000 in
theorem docClamp_2 (n : Int) (hn : Fits n) (w : World) :
    Calls Try.prog 34 #[.int .i64 2, .int .i64 n] w fun e w' => e = .returned (.tuple #[.int .i64 (clampK 2 n), .int .i64 0]) ∧ Below w.heap.size w w' := by
  obtain ⟨f1, f2⟩ := hn
  have HWD : Hid (∀ w : World, Calls Try.prog 36 #[.int .i64 2] w fun e w' => e = .returned (.int .i64 32) ∧ Below w.heap.size w w') := Lib.hid (width_ok 2 (by decide) (by decide))
  have hc : (n < -2147483648) ∨ (2147483647 < n) ∨ (-2147483648 ≤ n ∧ n ≤ 2147483647) := by omega
  rcases hc with h | h | h
  · have hv : clampK 2 n = -2147483648 := by
      show min (max n (-2147483648)) (2147483647) = -2147483648
      omega
    have HV := Lib.hid hv
    rw [HV.out]
    clear f1 f2 hv HV
    go_enter Try.func34, Try.ntmps34
    go_wp2_with (go_at_call 36; refine (HWD.out _).mono ?_; rintro e w1 ⟨rfl, hb1⟩)
    go_loop [7, 8] (fun f i => ∃ k : Nat, 1 ≤ k ∧ k ≤ 32 ∧ i = .int .i64 k ∧ f = .int .i64 (2 ^ (k - 1) : Nat)) (fun _ i => 32 - (intOf i).toNat)
    case atStart => exact ⟨1, by decide, by decide, rfl, rfl⟩
    case round =>
      obtain ⟨k, hk1, hk, rfl, rfl⟩ := hrel
      by_cases hlt : k < 32
      · have hq : 2 ^ (k - 1) ≤ 2 ^ 31 := Nat.pow_le_pow_right (by decide) (by omega)
        have hn := pow_next k hk1
        have HN := Lib.hid hn
        clear hn
        generalize 2 ^ (k - 1) = q at *
        have hq2 : (q : Int) ≤ 2147483648 := by omega
        clear hq
        go_wp2
        go_round
        case rel => exact ⟨k + 1, by omega, by omega, by go_num, by rw [HN.out]; go_num⟩
        case measure => simp [intOf]; omega
      · have : k = 32 := by omega
        subst this
        go_wp2
        go_ret2
        exact ⟨rfl, hb1⟩
  · have hv : clampK 2 n = 2147483647 := by
      show min (max n (-2147483648)) (2147483647) = 2147483647
      omega
    have HV := Lib.hid hv
    rw [HV.out]
    clear f1 f2 hv HV
    go_enter Try.func34, Try.ntmps34
    go_wp2_with (go_at_call 36; refine (HWD.out _).mono ?_; rintro e w1 ⟨rfl, hb1⟩)
    go_loop [7, 8] (fun f i => ∃ k : Nat, 1 ≤ k ∧ k ≤ 32 ∧ i = .int .i64 k ∧ f = .int .i64 (2 ^ (k - 1) : Nat)) (fun _ i => 32 - (intOf i).toNat)
    case atStart => exact ⟨1, by decide, by decide, rfl, rfl⟩
    case round =>
      obtain ⟨k, hk1, hk, rfl, rfl⟩ := hrel
      by_cases hlt : k < 32
      · have hq : 2 ^ (k - 1) ≤ 2 ^ 31 := Nat.pow_le_pow_right (by decide) (by omega)
        have hn := pow_next k hk1
        have HN := Lib.hid hn
        clear hn
        generalize 2 ^ (k - 1) = q at *
        have hq2 : (q : Int) ≤ 2147483648 := by omega
        clear hq
        go_wp2
        go_round
        case rel => exact ⟨k + 1, by omega, by omega, by go_num, by rw [HN.out]; go_num⟩
        case measure => simp [intOf]; omega
      · have : k = 32 := by omega
        subst this
        go_wp2
        go_ret2
        exact ⟨rfl, hb1⟩
  · have hv : clampK 2 n = n := by
      show min (max n (-2147483648)) (2147483647) = n
      omega
    have HV := Lib.hid hv
    rw [HV.out]
    clear f1 f2 hv HV
    obtain ⟨h1, h2⟩ := h
    go_enter Try.func34, Try.ntmps34
    go_wp2_with (go_at_call 36; refine (HWD.out _).mono ?_; rintro e w1 ⟨rfl, hb1⟩)
    go_loop [7, 8] (fun f i => ∃ k : Nat, 1 ≤ k ∧ k ≤ 32 ∧ i = .int .i64 k ∧ f = .int .i64 (2 ^ (k - 1) : Nat)) (fun _ i => 32 - (intOf i).toNat)
    case atStart => exact ⟨1, by decide, by decide, rfl, rfl⟩
    case round =>
      obtain ⟨k, hk1, hk, rfl, rfl⟩ := hrel
      by_cases hlt : k < 32
      · have hq : 2 ^ (k - 1) ≤ 2 ^ 31 := Nat.pow_le_pow_right (by decide) (by omega)
        have hn := pow_next k hk1
        have HN := Lib.hid hn
        clear hn
        generalize 2 ^ (k - 1) = q at *
        have hq2 : (q : Int) ≤ 2147483648 := by omega
        clear hq
        go_wp2
        go_round
        case rel => exact ⟨k + 1, by omega, by omega, by go_num, by rw [HN.out]; go_num⟩
        case measure => simp [intOf]; omega
      · have : k = 32 := by omega
        subst this
        go_wp2
        go_ret2
        exact ⟨rfl, hb1⟩
set_option maxHeartbeats 1600000 in
theorem docClamp_3 (n : Int) (hn : Fits n) (w : World) :
    Calls Try.prog 34 #[.int .i64 3, .int .i64 n] w fun e w' => e = .returned (.tuple #[.int .i64 (clampK 3 n), .int .i64 0]) ∧ Below w.heap.size w w' := by
  obtain ⟨f1, f2⟩ := hn
  have HWD : Hid (∀ w : World, Calls Try.prog 36 #[.int .i64 3] w fun e w' => e = .returned (.int .i64 64) ∧ Below w.heap.size w w') := Lib.hid (width_ok 3 (by decide) (by decide))
  have hc : (True) := by exact trivial
  rcases hc with h
  · have hv : clampK 3 n = n := by
      show min (max n (-9223372036854775808)) (9223372036854775807) = n
      omega
    have HV := Lib.hid hv
    rw [HV.out]
    clear f1 f2 hv HV
    go_enter Try.func34, Try.ntmps34
    go_wp2_with (go_at_call 36; refine (HWD.out _).mono ?_; rintro e w1 ⟨rfl, hb1⟩)
    go_ret2
    exact ⟨rfl, hb1⟩
set_option maxHeartbeats 1600000 in
theorem docClamp_4 (n : Int) (hn : Fits n) (w : World) :
    Calls Try.prog 34 #[.int .i64 4, .int .i64 n] w fun e w' => e = .returned (.tuple #[.int .i64 (clampK 4 n), .int .i64 0]) ∧ Below w.heap.size w w' := by
  obtain ⟨f1, f2⟩ := hn
  have HWD : Hid (∀ w : World, Calls Try.prog 36 #[.int .i64 4] w fun e w' => e = .returned (.int .i64 8) ∧ Below w.heap.size w w') := Lib.hid (width_ok 4 (by decide) (by decide))
  have hc : (n < 0) ∨ (255 < n) ∨ (0 ≤ n ∧ n ≤ 255) := by omega
  rcases hc with h | h | h
  · have hv : clampK 4 n = 0 := by
      show min (max n (0)) (255) = 0
      omega
    have HV := Lib.hid hv
    rw [HV.out]
    clear f1 f2 hv HV
    go_enter Try.func34, Try.ntmps34
    go_wp2_with (go_at_call 36; refine (HWD.out _).mono ?_; rintro e w1 ⟨rfl, hb1⟩)
    go_loop [9, 10] (fun f i => ∃ k : Nat, k ≤ 8 ∧ i = .int .i64 k ∧ f = .int .i64 (2 ^ k : Nat)) (fun _ i => 8 - (intOf i).toNat)
    case atStart => exact ⟨0, by decide, rfl, rfl⟩
    case round =>
      obtain ⟨k, hk, rfl, rfl⟩ := hrel
      by_cases hlt : k < 8
      · have hq : 2 ^ k ≤ 2 ^ 31 := Nat.pow_le_pow_right (by decide) (by omega)
        have hn := (Nat.pow_succ' : 2 ^ (k + 1) = 2 * 2 ^ k)
        have HN := Lib.hid hn
        clear hn
        generalize 2 ^ k = q at *
        have hq2 : (q : Int) ≤ 2147483648 := by omega
        clear hq
        go_wp2
        go_round
        case rel => exact ⟨k + 1, by omega, by go_num, by rw [HN.out]; go_num⟩
        case measure => simp [intOf]; omega
      · have : k = 8 := by omega
        subst this
        go_wp2
        go_ret2
        exact ⟨rfl, hb1⟩
  · have hv : clampK 4 n = 255 := by
      show min (max n (0)) (255) = 255
      omega
    have HV := Lib.hid hv
    rw [HV.out]
    clear f1 f2 hv HV
    go_enter Try.func34, Try.ntmps34
    go_wp2_with (go_at_call 36; refine (HWD.out _).mono ?_; rintro e w1 ⟨rfl, hb1⟩)
    go_loop [9, 10] (fun f i => ∃ k : Nat, k ≤ 8 ∧ i = .int .i64 k ∧ f = .int .i64 (2 ^ k : Nat)) (fun _ i => 8 - (intOf i).toNat)
    case atStart => exact ⟨0, by decide, rfl, rfl⟩
    case round =>
      obtain ⟨k, hk, rfl, rfl⟩ := hrel
      by_cases hlt : k < 8
      · have hq : 2 ^ k ≤ 2 ^ 31 := Nat.pow_le_pow_right (by decide) (by omega)
        have hn := (Nat.pow_succ' : 2 ^ (k + 1) = 2 * 2 ^ k)
        have HN := Lib.hid hn
        clear hn
        generalize 2 ^ k = q at *
        have hq2 : (q : Int) ≤ 2147483648 := by omega
        clear hq
        go_wp2
        go_round
        case rel => exact ⟨k + 1, by omega, by go_num, by rw [HN.out]; go_num⟩
        case measure => simp [intOf]; omega
      · have : k = 8 := by omega
        subst this
        go_wp2
        go_ret2
        exact ⟨rfl, hb1⟩
  · have hv : clampK 4 n = n := by
      show min (max n (0)) (255) = n
      omega
    have HV := Lib.hid hv
    rw [HV.out]
    clear f1 f2 hv HV
    obtain ⟨h1, h2⟩ := h
    go_enter Try.func34, Try.ntmps34
    go_wp2_with (go_at_call 36; refine (HWD.out _).mono ?_; rintro e w1 ⟨rfl, hb1⟩)
    go_loop [9, 10] (fun f i => ∃ k : Nat, k ≤ 8 ∧ i = .int .i64 k ∧ f = .int .i64 (2 ^ k : Nat)) (fun _ i => 8 - (intOf i).toNat)
    case atStart => exact ⟨0, by decide, rfl, rfl⟩
    case round =>
      obtain ⟨k, hk, rfl, rfl⟩ := hrel
      by_cases hlt : k < 8
      · have hq : 2 ^ k ≤ 2 ^ 31 := Nat.pow_le_pow_right (by decide) (by omega)
        have hn := (Nat.pow_succ' : 2 ^ (k + 1) = 2 * 2 ^ k)
        have HN := Lib.hid hn
        clear hn
        generalize 2 ^ k = q at *
        have hq2 : (q : Int) ≤ 2147483648 := by omega
        clear hq
        go_wp2
        go_round
        case rel => exact ⟨k + 1, by omega, by go_num, by rw [HN.out]; go_num⟩
        case measure => simp [intOf]; omega
      · have : k = 8 := by omega
        subst this
        go_wp2
        go_ret2
        exact ⟨rfl, hb1⟩
set_option maxHeartbeats 1600000 in
theorem docClamp_5 (n : Int) (hn : Fits n) (w : World) :
    Calls Try.prog 34 #[.int .i64 5, .int .i64 n] w fun e w' => e = .returned (.tuple #[.int .i64 (clampK 5 n), .int .i64 0]) ∧ Below w.heap.size w w' := by
  obtain ⟨f1, f2⟩ := hn
  have HWD : Hid (∀ w : World, Calls Try.prog 36 #[.int .i64 5] w fun e w' => e = .returned (.int .i64 16) ∧ Below w.heap.size w w') := Lib.hid (width_ok 5 (by decide) (by decide))
  have hc : (n < 0) ∨ (65535 < n) ∨ (0 ≤ n ∧ n ≤ 65535) := by omega
  rcases hc with h | h | h
  · have hv : clampK 5 n = 0 := by
      show min (max n (0)) (65535) = 0
      omega
    have HV := Lib.hid hv
    rw [HV.out]
    clear f1 f2 hv HV
    go_enter Try.func34, Try.ntmps34
    go_wp2_with (go_at_call 36; refine (HWD.out _).mono ?_; rintro e w1 ⟨rfl, hb1⟩)
    go_loop [9, 10] (fun f i => ∃ k : Nat, k ≤ 16 ∧ i = .int .i64 k ∧ f = .int .i64 (2 ^ k : Nat)) (fun _ i => 16 - (intOf i).toNat)
    case atStart => exact ⟨0, by decide, rfl, rfl⟩
    case round =>
      obtain ⟨k, hk, rfl, rfl⟩ := hrel
      by_cases hlt : k < 16
      · have hq : 2 ^ k ≤ 2 ^ 31 := Nat.pow_le_pow_right (by decide) (by omega)
        have hn := (Nat.pow_succ' : 2 ^ (k + 1) = 2 * 2 ^ k)
        have HN := Lib.hid hn
        clear hn
        generalize 2 ^ k = q at *
        have hq2 : (q : Int) ≤ 2147483648 := by omega
        clear hq
        go_wp2
        go_round
        case rel => exact ⟨k + 1, by omega, by go_num, by rw [HN.out]; go_num⟩
        case measure => simp [intOf]; omega
      · have : k = 16 := by omega
        subst this
        go_wp2
        go_ret2
        exact ⟨rfl, hb1⟩
  · have hv : clampK 5 n = 65535 := by
      show min (max n (0)) (65535) = 65535
      omega
    have HV := Lib.hid hv
    rw [HV.out]
    clear f1 f2 hv HV
    go_enter Try.func34, Try.ntmps34
    go_wp2_with (go_at_call 36; refine (HWD.out _).mono ?_; rintro e w1 ⟨rfl, hb1⟩)
    go_loop [9, 10] (fun f i => ∃ k : Nat, k ≤ 16 ∧ i = .int .i64 k ∧ f = .int .i64 (2 ^ k : Nat)) (fun _ i => 16 - (intOf i).toNat)
    case atStart => exact ⟨0, by decide, rfl, rfl⟩
    case round =>
      obtain ⟨k, hk, rfl, rfl⟩ := hrel
      by_cases hlt : k < 16
      · have hq : 2 ^ k ≤ 2 ^ 31 := Nat.pow_le_pow_right (by decide) (by omega)
        have hn := (Nat.pow_succ' : 2 ^ (k + 1) = 2 * 2 ^ k)
        have HN := Lib.hid hn
        clear hn
        generalize 2 ^ k = q at *
        have hq2 : (q : Int) ≤ 2147483648 := by omega
        clear hq
        go_wp2
        go_round
        case rel => exact ⟨k + 1, by omega, by go_num, by rw [HN.out]; go_num⟩
        case measure => simp [intOf]; omega
      · have : k = 16 := by omega
        subst this
        go_wp2
        go_ret2
        exact ⟨rfl, hb1⟩
  · have hv : clampK 5 n = n := by
      show min (max n (0)) (65535) = n
      omega
    have HV := Lib.hid hv
    rw [HV.out]
    clear f1 f2 hv HV
    obtain ⟨h1, h2⟩ := h
    go_enter Try.func34, Try.ntmps34
    go_wp2_with (go_at_call 36; refine (HWD.out _).mono ?_; rintro e w1 ⟨rfl, hb1⟩)
    go_loop [9, 10] (fun f i => ∃ k : Nat, k ≤ 16 ∧ i = .int .i64 k ∧ f = .int .i64 (2 ^ k : Nat)) (fun _ i => 16 - (intOf i).toNat)
    case atStart => exact ⟨0, by decide, rfl, rfl⟩
    case round =>
      obtain ⟨k, hk, rfl, rfl⟩ := hrel
      by_cases hlt : k < 16
      · have hq : 2 ^ k ≤ 2 ^ 31 := Nat.pow_le_pow_right (by decide) (by omega)
        have hn := (Nat.pow_succ' : 2 ^ (k + 1) = 2 * 2 ^ k)
        have HN := Lib.hid hn
        clear hn
        generalize 2 ^ k = q at *
        have hq2 : (q : Int) ≤ 2147483648 := by omega
        clear hq
        go_wp2
        go_round
        case rel => exact ⟨k + 1, by omega, by go_num, by rw [HN.out]; go_num⟩
        case measure => simp [intOf]; omega
      · have : k = 16 := by omega
        subst this
        go_wp2
        go_ret2
        exact ⟨rfl, hb1⟩
set_option maxHeartbeats 1600000 in
theorem docClamp_6 (n : Int) (hn : Fits n) (w : World) :
    Calls Try.prog 34 #[.int .i64 6, .int .i64 n] w fun e w' => e = .returned (.tuple #[.int .i64 (clampK 6 n), .int .i64 0]) ∧ Below w.heap.size w w' := by
  obtain ⟨f1, f2⟩ := hn
  have HWD : Hid (∀ w : World, Calls Try.prog 36 #[.int .i64 6] w fun e w' => e = .returned (.int .i64 32) ∧ Below w.heap.size w w') := Lib.hid (width_ok 6 (by decide) (by decide))
  have hc : (n < 0) ∨ (4294967295 < n) ∨ (0 ≤ n ∧ n ≤ 4294967295) := by omega
  rcases hc with h | h | h
  · have hv : clampK 6 n = 0 := by
      show min (max n (0)) (4294967295) = 0
      omega
    have HV := Lib.hid hv
    rw [HV.out]
    clear f1 f2 hv HV
    go_enter Try.func34, Try.ntmps34
    go_wp2_with (go_at_call 36; refine (HWD.out _).mono ?_; rintro e w1 ⟨rfl, hb1⟩)
    go_loop [9, 10] (fun f i => ∃ k : Nat, k ≤ 32 ∧ i = .int .i64 k ∧ f = .int .i64 (2 ^ k : Nat)) (fun _ i => 32 - (intOf i).toNat)
    case atStart => exact ⟨0, by decide, rfl, rfl⟩
    case round =>
      obtain ⟨k, hk, rfl, rfl⟩ := hrel
      by_cases hlt : k < 32
      · have hq : 2 ^ k ≤ 2 ^ 31 := Nat.pow_le_pow_right (by decide) (by omega)
        have hn := (Nat.pow_succ' : 2 ^ (k + 1) = 2 * 2 ^ k)
        have HN := Lib.hid hn
        clear hn
        generalize 2 ^ k = q at *
        have hq2 : (q : Int) ≤ 2147483648 := by omega
        clear hq
        go_wp2
        go_round
        case rel => exact ⟨k + 1, by omega, by go_num, by rw [HN.out]; go_num⟩
        case measure => simp [intOf]; omega
      · have : k = 32 := by omega
        subst this
        go_wp2
        go_ret2
        exact ⟨rfl, hb1⟩
  · have hv : clampK 6 n = 4294967295 := by
      show min (max n (0)) (4294967295) = 4294967295
      omega
    have HV := Lib.hid hv
    rw [HV.out]
    clear f1 f2 hv HV
    go_enter Try.func34, Try.ntmps34
    go_wp2_with (go_at_call 36; refine (HWD.out _).mono ?_; rintro e w1 ⟨rfl, hb1⟩)
    go_loop [9, 10] (fun f i => ∃ k : Nat, k ≤ 32 ∧ i = .int .i64 k ∧ f = .int .i64 (2 ^ k : Nat)) (fun _ i => 32 - (intOf i).toNat)
    case atStart => exact ⟨0, by decide, rfl, rfl⟩
    case round =>
      obtain ⟨k, hk, rfl, rfl⟩ := hrel
      by_cases hlt : k < 32
      · have hq : 2 ^ k ≤ 2 ^ 31 := Nat.pow_le_pow_right (by decide) (by omega)
        have hn := (Nat.pow_succ' : 2 ^ (k + 1) = 2 * 2 ^ k)
        have HN := Lib.hid hn
        clear hn
        generalize 2 ^ k = q at *
        have hq2 : (q : Int) ≤ 2147483648 := by omega
        clear hq
        go_wp2
        go_round
        case rel => exact ⟨k + 1, by omega, by go_num, by rw [HN.out]; go_num⟩
        case measure => simp [intOf]; omega
      · have : k = 32 := by omega
        subst this
        go_wp2
        go_ret2
        exact ⟨rfl, hb1⟩
  · have hv : clampK 6 n = n := by
      show min (max n (0)) (4294967295) = n
      omega
    have HV := Lib.hid hv
    rw [HV.out]
    clear f1 f2 hv HV
    obtain ⟨h1, h2⟩ := h
    go_enter Try.func34, Try.ntmps34
    go_wp2_with (go_at_call 36; refine (HWD.out _).mono ?_; rintro e w1 ⟨rfl, hb1⟩)
    go_loop [9, 10] (fun f i => ∃ k : Nat, k ≤ 32 ∧ i = .int .i64 k ∧ f = .int .i64 (2 ^ k : Nat)) (fun _ i => 32 - (intOf i).toNat)
    case atStart => exact ⟨0, by decide, rfl, rfl⟩
    case round =>
      obtain ⟨k, hk, rfl, rfl⟩ := hrel
      by_cases hlt : k < 32
      · have hq : 2 ^ k ≤ 2 ^ 31 := Nat.pow_le_pow_right (by decide) (by omega)
        have hn := (Nat.pow_succ' : 2 ^ (k + 1) = 2 * 2 ^ k)
        have HN := Lib.hid hn
        clear hn
        generalize 2 ^ k = q at *
        have hq2 : (q : Int) ≤ 2147483648 := by omega
        clear hq
        go_wp2
        go_round
        case rel => exact ⟨k + 1, by omega, by go_num, by rw [HN.out]; go_num⟩
        case measure => simp [intOf]; omega
      · have : k = 32 := by omega
        subst this
        go_wp2
        go_ret2
        exact ⟨rfl, hb1⟩
set_option maxHeartbeats 1600000 in
theorem docClamp_7 (n : Int) (hn : Fits n) (w : World) :
    Calls Try.prog 34 #[.int .i64 7, .int .i64 n] w fun e w' => e = .returned (.tuple #[.int .i64 (clampK 7 n), .int .i64 0]) ∧ Below w.heap.size w w' := by
  obtain ⟨f1, f2⟩ := hn
  have HWD : Hid (∀ w : World, Calls Try.prog 36 #[.int .i64 7] w fun e w' => e = .returned (.int .i64 64) ∧ Below w.heap.size w w') := Lib.hid (width_ok 7 (by decide) (by decide))
  have hc : (n < 0) ∨ (0 ≤ n) := by omega
  rcases hc with h | h
  · have hv : clampK 7 n = 0 := by
      show min (max n (0)) (9223372036854775807) = 0
      omega
    have HV := Lib.hid hv
    rw [HV.out]
    clear f1 f2 hv HV
    go_enter Try.func34, Try.ntmps34
    go_wp2_with (go_at_call 36; refine (HWD.out _).mono ?_; rintro e w1 ⟨rfl, hb1⟩)
    go_ret2
    exact ⟨rfl, hb1⟩
  · have hv : clampK 7 n = n := by
      show min (max n (0)) (9223372036854775807) = n
      omega
    have HV := Lib.hid hv
    rw [HV.out]
    clear f1 f2 hv HV
    go_enter Try.func34, Try.ntmps34
    go_wp2_with (go_at_call 36; refine (HWD.out _).mono ?_; rintro e w1 ⟨rfl, hb1⟩)
    go_ret2
    exact ⟨rfl, hb1⟩
theorem docClamp_ok (kind n : Int) (h0 : 0 ≤ kind) (h7 : kind ≤ 7) (hn : Fits n) (w : World) :
    Calls Try.prog 34 #[.int .i64 kind, .int .i64 n] w fun e w' => e = .returned (.tuple #[.int .i64 (clampK kind n), .int .i64 0]) ∧ Below w.heap.size w w' := by
  have hc : kind = 0 ∨ kind = 1 ∨ kind = 2 ∨ kind = 3 ∨ kind = 4 ∨ kind = 5 ∨ kind = 6 ∨ kind = 7 := by omega
  rcases hc with rfl | rfl | rfl | rfl | rfl | rfl | rfl | rfl
  · exact docClamp_0 n hn w
  · exact docClamp_1 n hn w
  · exact docClamp_2 n hn w
  · exact docClamp_3 n hn w
  · exact docClamp_4 n hn w
  · exact docClamp_5 n hn w
  · exact docClamp_6 n hn w
  · exact docClamp_7 n hn w
end Go.Proofs.Ytdoaepopkdeonaa
