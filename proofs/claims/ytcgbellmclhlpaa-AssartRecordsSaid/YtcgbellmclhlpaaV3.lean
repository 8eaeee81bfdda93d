/-
  Numbers as bytes: contract of Get of package varint.
-/
import Derived.Test.YtcgbellmclhlpaaV2
namespace Go.Proofs.Ytcgbellmclhlpaa.Vi
set_option linter.unusedVariables false
set_option linter.unusedSimpArgs false
open Go.RowKit

theorem andNot128 : ∀ r : Fin 128, bits .andNot .u8 ((r.val + 128 : Nat) : Int) 128 = (r.val : Nat) := by decide +kernel
/-- One byte more. -/
theorem get_step (n k : Nat) (hn : n ≤ 18446744073709551615) (y : Nat) (hy : y = n / 128 ^ k % 128) (hk : k ≤ 9) :
    bits .or .u64 ((n % 128 ^ k : Nat) : Int) (IntKind.u64.wrap ((y : Int) * 2 ^ (7 * k))) = ((n % 128 ^ (k + 1) : Nat) : Int) := by
  subst hy
  have hp : (128 : Nat) ^ k = 2 ^ (7 * k) := by rw [Nat.pow_mul]
  have hc : ((2 : Int) ^ (7 * k)) = ((2 ^ (7 * k) : Nat) : Int) := by simp
  have hsplit : n % 128 ^ (k + 1) = n % 128 ^ k + 128 ^ k * (n / 128 ^ k % 128) := by rw [Nat.pow_succ, Nat.mod_mul]
  have hle : n % 128 ^ (k + 1) ≤ n := Nat.mod_le _ _
  have hlt : n % 2 ^ (7 * k) < 2 ^ (7 * k) := Nat.mod_lt _ (Nat.two_pow_pos _)
  have hle2 : n % 2 ^ (7 * k) ≤ n := Nat.mod_le _ _
  rw [hp] at hsplit
  rw [hp, hc, ← Int.natCast_mul, IntKind.wrap_u64]
  have hm : n / 2 ^ (7 * k) % 128 * 2 ^ (7 * k) ≤ n := by
    rw [Nat.mul_comm]; omega
  have e1 : ((n / 2 ^ (7 * k) % 128 * 2 ^ (7 * k) : Nat) : Int) % 18446744073709551616 = ((n / 2 ^ (7 * k) % 128 * 2 ^ (7 * k) : Nat) : Int) := by omega
  rw [e1, bits_or_u64_nat _ _ (by omega) (by omega), hsplit]
  congr 1
  rw [Nat.or_comm, Nat.mul_comm, ← Nat.two_pow_add_eq_or_of_lt hlt, Nat.add_comm]
theorem get_last (n k : Nat) (h : Short n k) : n % 128 ^ (k + 1) = n := by
  apply Nat.mod_eq_of_lt
  have h2 := h.2.1
  rw [Nat.div_lt_iff_lt_mul (Nat.pow_pos (by decide))] at h2
  rw [Nat.pow_succ, Nat.mul_comm]; exact h2

set_option maxRecDepth 100000 in
set_option maxHeartbeats 1600000 in
/-- Get reads what Put wrote, whatever stands behind it. -/
theorem get_ok (n k g off len cap : Nat) (hn : n ≤ 18446744073709551615) (hsh : Short n k) (hlen : k + 1 ≤ len) (hmax : len ≤ 9223372036854775807) (w : World) (hr : ReadsB w g off (putL n k)) :
    Calls Try.prog 33 #[.slice (some ⟨g, off, none⟩) len cap] w fun e w' => e = .returned (.tuple #[.int .u64 n, .int .i64 ((k : Int) + 1), .int .i64 0]) ∧ w = w' := by
  obtain ⟨hg, hc⟩ := hr
  have hk9 := hsh.1
  have HC := Lib.hid hc
  have HSH := Lib.hid hsh
  have HST := Lib.hid (fun j hj => get_step n j hn _ rfl hj)
  have HNN := Lib.hid hn
  clear hc hsh hn
  go_enter Try.func33, Try.ntmps33
  go_wp2
  go_loop [5, 10] (fun t i => ∃ j : Nat, j ≤ k ∧ i = .int .i64 j ∧ t = .int .u64 (n % 128 ^ j : Nat)) (fun _ i => k + 1 - (intOf i).toNat)
  case atStart => exact ⟨0, Nat.zero_le _, rfl, by simp [Nat.mod_one]⟩
  case round =>
    obtain ⟨j, hj, rfl, rfl⟩ := hrel
    have hjl : j < len := by omega
    have hst := HST.out j (by omega)
    by_cases hlt : j < k
    · have hcell := HC.out j (by rw [putL_len]; omega)
      rw [putL_get n k j hlt] at hcell
      have hy : n / 128 ^ j % 128 < 128 := Nat.mod_lt _ (by decide)
      have han := andNot128 ⟨n / 128 ^ j % 128, hy⟩
      simp only at han
      generalize n / 128 ^ j % 128 = y at *
      generalize hs : n % 128 ^ (j + 1) = s' at *
      generalize n % 128 ^ j = s at *
      have HSS := Lib.hid hs
      have hx1 : decide (((y + 128 : Nat) : Int) < 128) = false := by simp; omega
      have hj10 : ((j : Int) == 10) = false := by simp; omega
      obtain ⟨x, hx⟩ : ∃ x, x = y + 128 := ⟨_, rfl⟩
      rw [← hx] at hcell han hx1
      have hx255 : x ≤ 255 := by omega
      clear hs hx
      go_wp2
      go_round
      case rel => exact ⟨j + 1, by omega, by go_num, by rw [HSS.out]⟩
      case measure => simp [intOf]; omega
    · have : j = k := by omega
      subst this
      have hcell := HC.out j (by rw [putL_len]; omega)
      rw [putL_last n j] at hcell
      have hx := HSH.out.2.1
      have hy : n / 128 ^ j % 128 = n / 128 ^ j := Nat.mod_eq_of_lt hx
      have h9 : j = 9 → n / 128 ^ j ≤ 1 := fun h => by
        subst h
        have := HNN.out
        have h63 : (128 : Nat) ^ 9 = 9223372036854775808 := by decide
        rw [h63]; omega
      have h0 : 0 < j → 1 ≤ n / 128 ^ j := fun h => by
        have h1 := HSH.out.2.2 (j - 1) (by omega)
        have e : n / 128 ^ j = n / 128 ^ (j - 1) / 128 := by
          rw [Nat.div_div_eq_div_mul, ← Nat.pow_succ]; congr 2; omega
        rw [e]; omega
      rw [hy, get_last n j HSH.out] at hst
      generalize n / 128 ^ j = x at *
      generalize n % 128 ^ j = s at *
      have hx2 : (x : Int) < 128 := by omega
      have hj10 : ((j : Int) == 10) = false := by simp; omega
      clear hy hx
      by_cases hj9 : j = 9
      · have hb1 : ((j : Int) == 9) = true := by simp; omega
        have hb2 : (x : Int) ≤ 1 := by have := h9 hj9; omega
        have hb2' : decide ((1 : Int) < x) = false := by simp; omega
        have hb3 : (0 : Int) < j := by omega
        have hb4 : ((x : Int) == 0) = false := by have := h0 (by omega); simp; omega
        clear h9 h0 hj9
        go_wp2
        go_ret3
        exact ⟨rfl, rfl⟩
      · have hb1 : ((j : Int) == 9) = false := by simp; omega
        by_cases hj0 : j = 0
        · have hb3 : decide (0 < j) = false := by simp; omega
          clear h9 h0 hj9 hj0
          go_wp2
          go_ret3
          exact ⟨rfl, rfl⟩
        · have hb3 : (0 : Int) < j := by omega
          have hb4 : ((x : Int) == 0) = false := by have := h0 (by omega); simp; omega
          clear h9 h0 hj9 hj0
          go_wp2
          go_ret3
          exact ⟨rfl, rfl⟩

/-- 300 has two bytes. -/
theorem short300 (k : Nat) (h : Short 300 k) : k = 1 := by
  obtain ⟨h1, h2, h3⟩ := h
  have hc : k = 0 ∨ k = 1 ∨ 2 ≤ k := by omega
  rcases hc with rfl | rfl | h
  · simp at h2
  · rfl
  · have := h3 1 (by omega); simp at this
set_option maxHeartbeats 800000 in
theorem awake_ok (w : World) : Calls Try.prog 4 #[] w fun e w' => e = .returned (.bool true) ∧ Below w.heap.size w w' := by
  have HP := Lib.hid (put_ok 300 (by decide))
  go_enter Try.func4, Try.ntmps4
  go_wp2_with fail
  refine (HP.out _).mono ?_
  rintro e w1 ⟨v, k, rfl, hs, hown, hb⟩
  obtain rfl := short300 k hs
  obtain ⟨g, cap, rfl, hB, hle, hm, hr⟩ := hown.parts (by decide)
  have hconv := run_convert_bytes_arg (P := Try.prog) w1 27 5 Try.underlying27 Try.underlying5 g 0 2 cap [172, 2] rfl (fun i hi => by
    rw [hr.2 i (by exact hi)]
    have hc : i = 0 ∨ i = 1 := by omega
    rcases hc with rfl | rfl <;> rfl) 9 Try.underlying9
  have HS : strOfNums [172, 2] = (⟨#[172, 2]⟩ : ByteArray) := rfl
  rw [HS] at hconv
  clear hs hown hr hB hle hm HS
  have e2 : (putL 300 1).length = 2 := rfl
  rw [e2]
  clear e2
  go_wp2
  go_ret
  exact ⟨rfl, hb⟩
end Go.Proofs.Ytcgbellmclhlpaa.Vi
