/-
  Numbers: what AssartNumbers calls, in bundles.
-/
import Derived.Test.YtdoaepopkdeonaaF1
namespace Go.Proofs.Ytdoaepopkdeonaa
set_option linter.unusedVariables false
set_option linter.unusedSimpArgs false
open Go.RowKit Vi Sl

/-- The mask of a sum. -/
def maskZ (x : Nat) : Nat := (rotN x 32 (sN (-15) 32) + 2726488792) % 4294967296
set_option maxHeartbeats 800000 in
theorem mask_crc (x : Nat) (hx : x ≤ 4294967295) (w : World) : Calls Try.prog 30 #[.int .u32 x] w fun e w' => e = .returned (.int .u32 (maskZ x : Nat)) ∧ w = w' := by
  have HR := Lib.hid (rot32 x (-15) hx)
  have hr := rotN_lt x 32 (sN (-15) 32) (by omega)
  unfold maskZ
  generalize rotN x 32 (sN (-15) 32) = R at *
  have hr2 : (R : Int) ≤ 4294967295 := by omega
  have e : (((R + 2726488792) % 4294967296 : Nat) : Int) = ((R : Int) + 2726488792) % 4294967296 := by omega
  rw [e]
  clear e hr
  go_enter Try.func30, Try.ntmps30
  go_wp2_with (go_at_call 49; refine (HR.out _).mono ?_; rintro e w' ⟨rfl, rfl⟩)
  go_ret
  exact ⟨rfl, rfl⟩

/-- Fixed, then Whole. -/
theorem fixed_whole (L S : Nat) (hL : L ≤ 18446744073709551615) (hS : S ≤ 8) (hS1 : 1 ≤ S) (hfit : L < 256 ^ S) (w : World) :
    Calls Try.prog 23 #[.int .u64 L, .int .i64 S] w fun e w' => ∃ v, e = .returned (.tuple #[v, .int .i64 0]) ∧
      (Calls Try.prog 24 #[v] w' fun e w'' => e = .returned (.tuple #[.int .u64 L, .int .i64 0]) ∧ w' = w'') ∧ Below w.heap.size w w' := by
  refine (fixed_ok L S hL hS (fun _ => hfit) w).mono fun e w' ⟨v, he, hv, hb⟩ => ?_
  obtain ⟨g, cap, rfl, hB, hle, hm, hr⟩ := hv.parts (by rw [fixL_len]; omega)
  refine ⟨_, he, ?_, hb⟩
  have := whole_ok g 0 cap (fixL L S) w' (by rw [fixL_len]; exact hS) (by intro x hx; simp only [fixL, List.mem_map] at hx; obtain ⟨i, _, rfl⟩ := hx; omega) hr
  rwa [sumB_fix, Nat.mod_eq_of_lt hfit] at this
/-- Put, then Get. -/
theorem put_get (L : Nat) (hL : L ≤ 18446744073709551615) (w : World) :
    Calls Try.prog 26 #[.int .u64 L] w fun e w' => ∃ (v : Value) (k : Int), e = .returned v ∧
      (Calls Try.prog 25 #[v] w' fun e w'' => e = .returned (.tuple #[.int .u64 L, .int .i64 k, .int .i64 0]) ∧ w' = w'') ∧ Below w.heap.size w w' := by
  refine (put_ok L hL w).mono fun e w' ⟨v, k, he, hs, hv, hb⟩ => ?_
  obtain ⟨g, cap, rfl, hB, hle, hm, hr⟩ := hv.parts (by rw [putL_len]; omega)
  have hk := hs.1
  exact ⟨_, _, he, get_ok L k g 0 _ cap hL hs (by rw [putL_len]; exact Nat.le_refl _) (by rw [putL_len]; omega) w' hr, hb⟩
/-- Fixed of eight bytes. -/
theorem fixed_8 (n : Int) (w : World) :
    Calls Try.prog 23 #[.int .u64 (IntKind.u64.wrap n), .int .i64 8] w fun e w' => ∃ g cap, e = .returned (.tuple #[.slice (some ⟨g, 0, none⟩) 8 cap, .int .i64 0]) ∧ g < w'.heap.size ∧
      Hid (∀ j, j < 8 → w'.cell? ⟨g, j, none⟩ = some (.int .u8 ((U n / 256 ^ j % 256 : Nat) : Int))) ∧ Below w.heap.size w w' := by
  rw [U_wrap]
  refine (fixed_ok (U n) 8 (U_le n) (Nat.le_refl _) (fun h => absurd h (by decide)) w).mono fun e w' ⟨v, he, hv, hb⟩ => ?_
  obtain ⟨g, cap, rfl, hB, hle, hm, hg, hr⟩ := hv.parts (by rw [fixL_len]; decide)
  refine ⟨g, cap, by rw [he, fixL_len], hg, Lib.hid fun j hj => ?_, hb⟩
  have := hr j (by rw [fixL_len]; exact hj)
  rw [Nat.zero_add] at this
  rw [this]
  simp [fixL, hj]
theorem swap_byte (n : Int) (j : Nat) (hj : j < 8) : U (swapK 7 n) / 256 ^ (7 - j) % 256 = U n / 256 ^ j % 256 := by
  apply Nat.eq_of_testBit_eq
  intro i
  have h256 : ∀ k : Nat, (256 : Nat) ^ k = 2 ^ (8 * k) := fun k => by rw [Nat.pow_mul]
  rw [h256, h256, show (256 : Nat) = 2 ^ 8 from rfl, Nat.testBit_mod_two_pow, Nat.testBit_mod_two_pow, ← Nat.shiftRight_eq_div_pow, ← Nat.shiftRight_eq_div_pow, Nat.testBit_shiftRight, Nat.testBit_shiftRight]
  by_cases hi : i < 8
  · rw [swapK_bit 7 n _ (by show _ < 64; omega)]
    unfold swapF swapI
    rw [show wd 7 = 64 from rfl, show 64 - 8 - (8 * (7 - j) + i) / 8 * 8 + (8 * (7 - j) + i) % 8 = 8 * j + i by omega]
  · simp [hi]
/-- Encode, then Whole of what is behind the key. -/
theorem encode_whole (Q : Nat) (hQ : Q ≤ 72057594037927935) (w : World) :
    Calls Try.prog 28 #[.agg #[.string ⟨#[107]⟩, .int .i64 Q, .int .i64 1]] w fun e w' => ∃ g off cap, e = .returned (.tuple #[.slice (some ⟨g, off, none⟩) 9 cap, .int .i64 0]) ∧ 9 ≤ cap ∧ cap ≤ 9223372036854775807 ∧
      (∀ c, Calls Try.prog 24 #[.slice (some ⟨g, off + 1, none⟩) 8 c] w' fun e w'' => e = .returned (.tuple #[.int .u64 (Q * 256 + 1 : Nat), .int .i64 0]) ∧ w' = w'') ∧ Below w.heap.size w w' := by
  refine (encode_k Q hQ w).mono fun e w' ⟨v, he, hv, hb⟩ => ?_
  obtain ⟨g, off, cap, rfl, hB, hg, hle, hm, hr⟩ := hv.parts (by decide)
  refine ⟨g, off, cap, he, hle, hm, fun c => ?_, hb⟩
  have hlen : (fixL (Q * 256 + 1) 8).length = 8 := fixL_len _ _
  have := whole_ok g (off + 1) c (fixL (Q * 256 + 1) 8) w' (by rw [hlen]; exact Nat.le_refl _) (by intro x hx; simp only [fixL, List.mem_map] at hx; obtain ⟨i, _, rfl⟩ := hx; omega)
    ⟨hg, fun j hj => by
      have hj' : j < 8 := by rw [← hlen]; exact hj
      have := hr (1 + j) (.int .u8 (((fixL (Q * 256 + 1) 8).getD j 0 : Nat) : Int)) (by
        simp only [byteV, List.map_cons]
        rw [show 1 + j = j + 1 by omega, List.getElem?_cons_succ, List.getElem?_map, List.getElem?_eq_getElem hj]
        simp [hj])
      rwa [show off + (1 + j) = off + 1 + j by omega] at this⟩
  have h256 : (256 : Nat) ^ 8 = 18446744073709551616 := by decide
  have hfit : Q * 256 + 1 < 256 ^ 8 := by omega
  rwa [hlen, sumB_fix, Nat.mod_eq_of_lt hfit] at this

theorem numbers_calls (n p : Int) (sum : Nat) (hp0 : 0 ≤ p) (hp7 : p ≤ 7) (hsum : sum ≤ 4294967295) : ∃ (L Q : Nat) (X R Z : Int),
    CG (IntKind.u64.wrap n) 0 (8 * (1 + p)) L 0 ∧
    (∀ w, Calls Try.prog 23 #[.int .u64 L, .int .i64 (1 + p)] w fun e w' => ∃ v, e = .returned (.tuple #[v, .int .i64 0]) ∧
      (Calls Try.prog 24 #[v] w' fun e w'' => e = .returned (.tuple #[.int .u64 L, .int .i64 0]) ∧ w' = w'') ∧ Below w.heap.size w w') ∧
    (∀ w, Calls Try.prog 26 #[.int .u64 L] w fun e w' => ∃ (v : Value) (k : Int), e = .returned v ∧
      (Calls Try.prog 25 #[v] w' fun e w'' => e = .returned (.tuple #[.int .u64 L, .int .i64 k, .int .i64 0]) ∧ w' = w'') ∧ Below w.heap.size w w') ∧
    CP 27 7 n X 0 ∧ X = swapK 7 n ∧ Q ≤ 72057594037927935 ∧ CG (IntKind.u64.wrap n) 0 56 Q 0 ∧
    CT 6 sum (-15) R 0 ∧ 0 ≤ R ∧ R ≤ 4294967295 ∧ CW 6 (R + 2726488792) Z ∧ 0 ≤ Z ∧ Z ≤ 4294967295 ∧
    (∀ w, Calls Try.prog 30 #[.int .u32 sum] w fun e w' => e = .returned (.int .u32 Z) ∧ w = w') := by
  obtain ⟨S, hS⟩ : ∃ S : Nat, 1 + p = (S : Int) := ⟨(1 + p).toNat, by omega⟩
  rw [hS]
  have hS1 : 1 ≤ S := by omega
  have hS8 : S ≤ 8 := by omega
  have hL := getN_le (U n) 0 (8 * S) (U_le n)
  have hLt := getN_lt (U n) 0 (8 * S)
  rw [Nat.pow_mul] at hLt
  have hR := rotN_lt sum 32 (sN (-15) 32) (by omega)
  have eR : turnK 6 sum (-15) = (rotN sum 32 (sN (-15) 32) : Nat) := by
    unfold turnK
    have e1 : U (sum : Int) % 2 ^ wd 6 = sum := by rw [show wd 6 = 32 from rfl, U_nat]; omega
    rw [e1, show wd 6 = 32 from rfl, wrapK_6]
    omega
  have hQ : getN (U n) 0 56 ≤ 72057594037927935 := by have := getN_lt (U n) 0 56; omega
  refine ⟨getN (U n) 0 (8 * S), getN (U n) 0 56, swapK 7 n, turnK 6 sum (-15), (maskZ sum : Nat), ?_, fun w => fixed_whole _ S hL hS8 hS1 hLt w, fun w => put_get _ hL w,
    (swap_both 7 n (by decide) (by decide)).2, rfl, hQ, cg n 0 56 (by decide), ct 6 _ _ (by decide) (by decide), by rw [eR]; omega, by rw [eR]; omega, ?_, by omega, ?_, fun w => mask_crc sum hsum w⟩
  · have := cg n 0 (8 * S) (by omega)
    rwa [show ((8 * S : Nat) : Int) = 8 * (S : Int) by omega] at this
  · have h := cw 6 (turnK 6 sum (-15) + 2726488792) (by decide) (by decide) (by rw [eR]; unfold Fits; omega)
    rw [wrapK_6] at h
    have e : (turnK 6 sum (-15) + 2726488792) % 4294967296 = ((maskZ sum : Nat) : Int) := by rw [eR]; unfold maskZ; omega
    rwa [e] at h
  · unfold maskZ; omega
end Go.Proofs.Ytdoaepopkdeonaa
