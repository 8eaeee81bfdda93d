/-
  Records: the sum of bytes (crc): contracts of step, More, Sum, Mask, and of frame's sum; plain laws: another last byte has another sum.
-/
import Derived.Test.YtcgbellmclhlpaaV3
import Derived.Test.YtcgbellmclhlpaaG1
namespace Go.Proofs.Ytcgbellmclhlpaa
set_option linter.unusedVariables false
set_option linter.unusedSimpArgs false
open Go.RowKit Vi Sl

theorem xor32 (a b : Nat) (ha : a < 2 ^ 32) (hb : b < 2 ^ 32) : bits .xor .u32 (a : Int) (b : Int) = ((a ^^^ b : Nat) : Int) := by
  have hx : a ^^^ b < 2 ^ 32 := Nat.xor_lt_two_pow ha hb
  have h1 : (BitVec.ofInt 32 (a : Int)).toNat = a := by rw [BitVec.ofInt_natCast, BitVec.toNat_ofNat]; exact Nat.mod_eq_of_lt ha
  have h2 : (BitVec.ofInt 32 (b : Int)).toNat = b := by rw [BitVec.ofInt_natCast, BitVec.toNat_ofNat]; exact Nat.mod_eq_of_lt hb
  show IntKind.u32.wrap ((BitVec.ofInt 32 (a : Int) ^^^ BitVec.ofInt 32 (b : Int)).toNat : Int) = _
  rw [BitVec.toNat_xor, h1, h2]
  simp only [IntKind.wrap, IntKind.bits, IntKind.signed]
  simp
  omega
theorem u32w (n : Int) (h₀ : 0 ≤ n) (h₁ : n < 2 ^ 32) : IntKind.u32.wrap n = n := by simp [IntKind.wrap, IntKind.bits, IntKind.signed]; omega

/-- One bit. -/
def stepN (r : Nat) : Nat := (r / 2) ^^^ (if r % 2 = 1 then 2197175160 else 0)
theorem stepN_lt (r : Nat) (h : r < 2 ^ 32) : stepN r < 2 ^ 32 := by
  unfold stepN
  exact Nat.xor_lt_two_pow (by omega) (by split <;> decide)
theorem step_val (r : Nat) (h : r < 2 ^ 32) : bits .xor .u32 ((r : Int) / 2) (bits .and .u32 (-bits .and .u32 (r : Int) 1 % 4294967296) 2197175160) = ((stepN r : Nat) : Int) := by
  have e1 : bits .and .u32 (r : Int) 1 = ((r % 2 : Nat) : Int) := by
    have := (bits_nat .u32 32 (by decide) u32w r 1 h (by decide)).1
    rw [show ((1 : Int)) = ((1 : Nat) : Int) from rfl, this, show (1 : Nat) = 2 ^ 1 - 1 from rfl, Nat.and_two_pow_sub_one_eq_mod]
  have e2 : ((r : Int) / 2) = ((r / 2 : Nat) : Int) := by omega
  rw [e1, e2]
  unfold stepN
  by_cases h1 : r % 2 = 1
  · rw [if_pos h1, h1]
    have e3 : bits .and .u32 (-((1 : Nat) : Int) % 4294967296) 2197175160 = ((2197175160 : Nat) : Int) := by decide +kernel
    rw [e3, xor32 _ _ (by omega) (by decide)]
  · have h0 : r % 2 = 0 := by omega
    rw [if_neg h1, h0]
    have e3 : bits .and .u32 (-((0 : Nat) : Int) % 4294967296) 2197175160 = ((0 : Nat) : Int) := by decide +kernel
    rw [e3, xor32 _ _ (by omega) (by decide)]
theorem poly_bit : (2197175160 : Nat).testBit 31 = true := by decide
theorem step_top (r : Nat) (h : r < 2 ^ 32) : (stepN r).testBit 31 = decide (r % 2 = 1) := by
  unfold stepN
  rw [Nat.testBit_xor, Nat.testBit_lt_two_pow (show r / 2 < 2 ^ 31 by omega)]
  by_cases h1 : r % 2 = 1
  · rw [if_pos h1, poly_bit]; simp [h1]
  · rw [if_neg h1]; simp [h1]
theorem xor_cancel (a b c : Nat) (h : a ^^^ c = b ^^^ c) : a = b := by
  have : (a ^^^ c) ^^^ c = (b ^^^ c) ^^^ c := by rw [h]
  simpa [Nat.xor_assoc] using this
theorem step_inj (r s : Nat) (hr : r < 2 ^ 32) (hs : s < 2 ^ 32) (h : stepN r = stepN s) : r = s := by
  have t : decide (r % 2 = 1) = decide (s % 2 = 1) := by rw [← step_top r hr, ← step_top s hs, h]
  have t' : (r % 2 = 1) ↔ (s % 2 = 1) := by simpa using t
  unfold stepN at h
  have hd : r / 2 = s / 2 := by
    by_cases h1 : r % 2 = 1
    · rw [if_pos h1, if_pos (t'.1 h1)] at h; exact xor_cancel _ _ _ h
    · rw [if_neg h1, if_neg (fun h2 => h1 (t'.2 h2))] at h; exact xor_cancel _ _ _ h
  omega
/-- So many bits. -/
def stepsN : Nat → Nat → Nat
  | 0, r => r
  | j + 1, r => stepN (stepsN j r)
theorem stepsN_lt (j r : Nat) (h : r < 2 ^ 32) : stepsN j r < 2 ^ 32 := by
  induction j with
  | zero => exact h
  | succ j ih => exact stepN_lt _ ih
theorem steps_inj (j r s : Nat) (hr : r < 2 ^ 32) (hs : s < 2 ^ 32) (h : stepsN j r = stepsN j s) : r = s := by
  induction j with
  | zero => exact h
  | succ j ih => exact ih (step_inj _ _ (stepsN_lt j r hr) (stepsN_lt j s hs) h)
def regN (r x : Nat) : Nat := stepsN 8 (r ^^^ x)
/-- The register behind bytes. -/
def regsN (r : Nat) (l : List Nat) : Nat := l.foldl regN r
theorem regN_lt (r x : Nat) (h : r < 2 ^ 32) (hx : x < 256) : regN r x < 2 ^ 32 := stepsN_lt 8 _ (Nat.xor_lt_two_pow h (by omega))
theorem regsN_lt (l : List Nat) (r : Nat) (h : r < 2 ^ 32) (hl : ∀ x ∈ l, x < 256) : regsN r l < 2 ^ 32 := by
  induction l generalizing r with
  | nil => exact h
  | cons x l ih => exact ih _ (regN_lt r x h (hl x (by simp))) (fun y hy => hl y (by simp [hy]))
theorem regsN_snoc (l : List Nat) (r x : Nat) : regsN r (l ++ [x]) = regN (regsN r l) x := by simp [regsN]
/-- The sum of bytes behind others. -/
def moreN (sum : Nat) (l : List Nat) : Nat := 4294967295 ^^^ regsN (4294967295 ^^^ sum) l
theorem moreN_lt (sum : Nat) (l : List Nat) (h : sum < 2 ^ 32) (hl : ∀ x ∈ l, x < 256) : moreN sum l < 2 ^ 32 :=
  Nat.xor_lt_two_pow (by decide) (regsN_lt l _ (Nat.xor_lt_two_pow (by decide) h) hl)
theorem xor_cancel' (a b c : Nat) (h : c ^^^ a = c ^^^ b) : a = b := by rw [Nat.xor_comm c, Nat.xor_comm c] at h; exact xor_cancel _ _ _ h
theorem more_last (sum : Nat) (l : List Nat) (x y : Nat) (h : sum < 2 ^ 32) (hl : ∀ z ∈ l, z < 256) (hx : x < 256) (hy : y < 256) (e : moreN sum (l ++ [x]) = moreN sum (l ++ [y])) : x = y := by
  unfold moreN at e
  have e := xor_cancel' _ _ _ e
  rw [regsN_snoc, regsN_snoc] at e
  have hr := regsN_lt l _ (Nat.xor_lt_two_pow (show (4294967295 : Nat) < 2 ^ 32 by decide) h) hl
  have := steps_inj 8 _ _ (Nat.xor_lt_two_pow hr (show x < 2 ^ 32 by omega)) (Nat.xor_lt_two_pow hr (show y < 2 ^ 32 by omega)) e
  exact xor_cancel' _ _ _ this

/-- A sum as it is written beside its bytes. -/
def rot17 (x : Nat) : Nat := (x * 2 ^ 17 % 2 ^ 32) ||| (x / 2 ^ 15)
def maskN (x : Nat) : Nat := (rot17 x + 2726488792) % 4294967296
theorem rot17_lt (x : Nat) (h : x < 2 ^ 32) : rot17 x < 2 ^ 32 := Nat.or_lt_two_pow (Nat.mod_lt _ (by decide)) (by omega)
theorem rot17_sum (x : Nat) (h : x < 2 ^ 32) : rot17 x = x % 2 ^ 15 * 2 ^ 17 + x / 2 ^ 15 := by
  unfold rot17
  have e : x * 2 ^ 17 % 2 ^ 32 = 2 ^ 17 * (x % 2 ^ 15) := by omega
  rw [e, ← Nat.two_pow_add_eq_or_of_lt (show x / 2 ^ 15 < 2 ^ 17 by omega)]
  omega
theorem mask_inj (x y : Nat) (hx : x < 2 ^ 32) (hy : y < 2 ^ 32) (h : maskN x = maskN y) : x = y := by
  have h1 := rot17_lt x hx
  have h2 := rot17_lt y hy
  unfold maskN at h
  have e : rot17 x = rot17 y := by omega
  rw [rot17_sum x hx, rot17_sum y hy] at e
  have a1 : x / 2 ^ 15 < 2 ^ 17 := by omega
  have a2 : y / 2 ^ 15 < 2 ^ 17 := by omega
  have e1 : x / 2 ^ 15 = y / 2 ^ 15 := by
    generalize x / 2 ^ 15 = p at *
    generalize y / 2 ^ 15 = q at *
    generalize x % 2 ^ 15 = a at *
    generalize y % 2 ^ 15 = b at *
    omega
  have e2 : x % 2 ^ 15 = y % 2 ^ 15 := by omega
  omega
theorem maskN_lt (x : Nat) : maskN x < 2 ^ 32 := Nat.mod_lt _ (by decide)

set_option maxHeartbeats 800000 in
theorem step_ok (r : Nat) (h : r < 2 ^ 32) (w : World) : Calls Try.prog 35 #[.int .u32 r] w fun e w' => e = .returned (.int .u32 (stepN r : Nat)) ∧ w = w' := by
  have hv := Lib.hid (step_val r h)
  rw [← hv.out]
  have h2 : (r : Int) ≤ 4294967295 := by omega
  clear h hv
  go_enter Try.func35, Try.ntmps35
  go_wp2
  go_ret
  exact ⟨rfl, rfl⟩

theorem not32 (r : Nat) (h : r < 2 ^ 32) : bits .xor .u32 IntKind.u32.max (r : Int) = ((4294967295 ^^^ r : Nat) : Int) := by
  have : IntKind.u32.max = ((4294967295 : Nat) : Int) := by decide
  rw [this, xor32 _ _ (by decide) h]

set_option maxHeartbeats 1600000 in
theorem more_ne (sum g off cap : Nat) (l : List Nat) (hs : sum < 2 ^ 32) (hl : ∀ x ∈ l, x < 256) (hmax : l.length ≤ 9223372036854775807) (w : World) (hr : ReadsB w g off l) :
    Calls Try.prog 31 #[.int .u32 sum, .slice (some ⟨g, off, none⟩) l.length cap] w fun e w' => e = .returned (.int .u32 (moreN sum l : Nat)) ∧ w = w' := by
  obtain ⟨hg, hc⟩ := hr
  have h0 := not32 sum hs
  have hr0 : 4294967295 ^^^ sum < 2 ^ 32 := Nat.xor_lt_two_pow (by decide) hs
  unfold moreN
  generalize 4294967295 ^^^ sum = r0 at *
  have HEND := Lib.hid (not32 (regsN r0 l) (regsN_lt l r0 hr0 hl))
  obtain ⟨len, hlen⟩ : ∃ len, l.length = len := ⟨_, rfl⟩
  have HF : Hid (l.take len = l) := Lib.hid (List.take_of_length_le (by omega))
  have HR : Hid (∀ k, regsN r0 (l.take k) < 2 ^ 32) := Lib.hid (fun k => regsN_lt _ r0 hr0 (fun x hx => hl x (List.mem_of_mem_take hx)))
  have HX : Hid (∀ k, k < len → l.getD k 0 < 256) := Lib.hid (fun k hk => by
    have : l.getD k 0 = l[k]'(by omega) := by simp [show k < l.length by omega]
    rw [this]; exact hl _ (List.getElem_mem _))
  have HS : Hid (∀ k, k < len → regsN r0 (l.take (k + 1)) = stepsN 8 (regsN r0 (l.take k) ^^^ l.getD k 0)) := Lib.hid (fun k hk => by
    rw [take_step l k (by omega), regsN_snoc]; rfl)
  rw [hlen] at hc hmax ⊢
  have HC := Lib.hid hc
  have H0 := Lib.hid h0
  clear hc hlen hl hs hr0 h0
  go_enter Try.func31, Try.ntmps31
  go_wp2
  rw [H0.out]
  go_loop [5, 12] (fun r i => ∃ k : Nat, k ≤ len ∧ i = .int .i64 k ∧ r = .int .u32 (regsN r0 (l.take k) : Nat)) (fun _ i => len - (intOf i).toNat)
  case atStart => exact ⟨0, Nat.zero_le _, rfl, by simp [regsN]⟩
  case round =>
    obtain ⟨k, hk, rfl, rfl⟩ := hrel
    by_cases hlt : k < len
    · have hcell := HC.out k hlt
      have hx := HX.out k hlt
      have hrr := HR.out k
      have hss := HS.out k hlt
      have hxor := xor32 (regsN r0 (l.take k)) (l.getD k 0) hrr (by omega)
      have hlt2 : regsN r0 (l.take k) ^^^ l.getD k 0 < 2 ^ 32 := Nat.xor_lt_two_pow hrr (by omega)
      generalize hq : regsN r0 (l.take k) ^^^ l.getD k 0 = q at *
      generalize regsN r0 (l.take k) = r at *
      generalize l.getD k 0 = x at *
      have HSS := Lib.hid hss
      have HST := Lib.hid (fun j => step_ok (stepsN j q) (stepsN_lt j q hlt2))
      have hx2 : (x : Int) ≤ 255 := by omega
      clear hss hrr hlt2 hq hx
      go_wp2
      go_loop [5, 20] (fun r i => ∃ j : Nat, j ≤ 8 ∧ i = .int .i64 j ∧ r = .int .u32 (stepsN j q : Nat)) (fun _ i => 8 - (intOf i).toNat)
      case atStart => exact ⟨0, Nat.zero_le _, rfl, rfl⟩
      case round =>
        obtain ⟨j, hj, rfl, rfl⟩ := hrel
        by_cases hjl : j < 8
        · have hsj : stepsN (j + 1) q = stepN (stepsN j q) := rfl
          have HSJ := Lib.hid hsj
          have HS1 := Lib.hid (HST.out j)
          clear hsj
          generalize stepsN j q = y at *
          go_wp2_with (go_at_call 35; refine (HS1.out _).mono ?_; rintro e w' ⟨rfl, rfl⟩)
          go_round
          case rel => exact ⟨j + 1, by omega, by go_num, by rw [HSJ.out]⟩
          case measure => simp [intOf]; omega
        · have : j = 8 := by omega
          subst this
          go_wp2
          go_round
          case rel => exact ⟨k + 1, by omega, by go_num, by rw [HSS.out]⟩
          case measure => simp [intOf]; omega
    · have : k = len := by omega
      subst this
      rw [HF.out]
      have hend := HEND.out
      go_wp2
      go_ret
      exact ⟨rfl, rfl⟩
end Go.Proofs.Ytcgbellmclhlpaa
