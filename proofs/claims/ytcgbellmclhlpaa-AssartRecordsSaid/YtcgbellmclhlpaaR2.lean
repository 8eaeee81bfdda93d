/-
  Records: contracts of crc's Sum and Mask, of frame's sum, pad, Room, kind, piece.
-/
import Derived.Test.YtcgbellmclhlpaaR1
namespace Go.Proofs.Ytcgbellmclhlpaa
set_option linter.unusedVariables false
set_option linter.unusedSimpArgs false
open Go.RowKit Vi Sl

/-- A slice of bytes that reads as l. -/
def Bytes (w : World) (v : Value) (l : List Nat) : Prop :=
  (∀ x ∈ l, x < 256) ∧ ∃ ao cap, v = .slice ao l.length cap ∧ l.length ≤ cap ∧ cap ≤ 9223372036854775807 ∧ (l = [] ∨ ∃ g off, ao = some ⟨g, off, none⟩ ∧ ReadsB w g off l)
theorem Bytes.below {w w' : World} {v : Value} {l : List Nat} (h : Bytes w v l) {B : Nat} (hb : Below B w w') (hv : ∀ g, v.ownBlock = some g → l ≠ [] → g < B) : Bytes w' v l := by
  obtain ⟨h1, ao, cap, rfl, h2, h3, h4⟩ := h
  refine ⟨h1, ao, cap, rfl, h2, h3, ?_⟩
  rcases h4 with h4 | ⟨g, off, rfl, hr⟩
  · exact .inl h4
  · by_cases hl : l = []
    · exact .inl hl
    · exact .inr ⟨g, off, rfl, hr.mono hb (hv g rfl hl)⟩

set_option maxHeartbeats 800000 in
theorem more_nil (sum : Nat) (hs : sum < 2 ^ 32) (ao : Option Addr) (cap : Nat) (w : World) :
    Calls Try.prog 31 #[.int .u32 sum, .slice ao 0 cap] w fun e w' => e = .returned (.int .u32 (moreN sum [] : Nat)) ∧ w = w' := by
  have H0 := Lib.hid (not32 sum hs)
  have hr0 : 4294967295 ^^^ sum < 2 ^ 32 := Nat.xor_lt_two_pow (by decide) hs
  have H1 := Lib.hid (not32 _ hr0)
  clear hs hr0
  go_enter Try.func31, Try.ntmps31
  go_wp2
  rw [H0.out]
  refine wp_loop_rounds 1 ?_
  rw [rounds_succ]
  go_wp2
  go_ret
  exact ⟨by show Ending.returned (.int .u32 (bits .xor .u32 IntKind.u32.max ((4294967295 ^^^ sum : Nat) : Int))) = _; rw [H1.out]; rfl, rfl⟩
theorem more_ok (sum : Nat) (l : List Nat) (hs : sum < 2 ^ 32) (v : Value) (w : World) (hv : Bytes w v l) :
    Calls Try.prog 31 #[.int .u32 sum, v] w fun e w' => e = .returned (.int .u32 (moreN sum l : Nat)) ∧ w = w' := by
  obtain ⟨h1, ao, cap, rfl, h2, h3, h4⟩ := hv
  rcases h4 with rfl | ⟨g, off, rfl, hr⟩
  · exact more_nil sum hs ao cap w
  · exact more_ne sum g off cap l hs h1 (by omega) w hr

theorem rot_val (x : Nat) (hx : x < 2 ^ 32) : bits .or .u32 (IntKind.u32.wrap ((x : Int) * 2 ^ 17)) ((x : Int) / 2 ^ 15) = ((rot17 x : Nat) : Int) := by
  have e1 : IntKind.u32.wrap ((x : Int) * 2 ^ 17) = ((x * 2 ^ 17 % 2 ^ 32 : Nat) : Int) := by simp [IntKind.wrap, IntKind.bits, IntKind.signed]
  have e2 : ((x : Int) / 2 ^ 15) = ((x / 2 ^ 15 : Nat) : Int) := by simp
  rw [e1, e2, (bits_nat .u32 32 (by decide) u32w _ _ (Nat.mod_lt _ (by decide)) (by omega)).2]
  rfl
set_option maxHeartbeats 800000 in
theorem rotate_ok (x : Nat) (hx : x < 2 ^ 32) (w : World) : Calls Try.prog 34 #[.int .u32 x, .int .i64 (-15)] w fun e w' => e = .returned (.int .u32 (rot17 x : Nat)) ∧ w = w' := by
  have hv := Lib.hid (rot_val x hx)
  rw [← hv.out]
  have hb : bits .and .u64 (IntKind.u64.wrap (-15)) 31 = 17 := by decide +kernel
  have hx2 : (x : Int) ≤ 4294967295 := by omega
  clear hv hx
  go_enter Try.func34, Try.ntmps34
  go_wp2
  go_ret
  exact ⟨by first | rfl | simp [IntKind.wrap, IntKind.bits, IntKind.signed], rfl⟩
set_option maxHeartbeats 800000 in
theorem mask_ok (x : Nat) (hx : x < 2 ^ 32) (w : World) : Calls Try.prog 30 #[.int .u32 x] w fun e w' => e = .returned (.int .u32 (maskN x : Nat)) ∧ w = w' := by
  have HR := Lib.hid (rotate_ok x hx)
  have hr := rot17_lt x hx
  unfold maskN
  generalize rot17 x = R at *
  have hr2 : (R : Int) ≤ 4294967295 := by omega
  have e : (((R + 2726488792) % 4294967296 : Nat) : Int) = ((R : Int) + 2726488792) % 4294967296 := by omega
  rw [e]
  clear e hr hx
  go_enter Try.func30, Try.ntmps30
  go_wp2_with (go_at_call 34; refine (HR.out _).mono ?_; rintro e w' ⟨rfl, rfl⟩)
  go_ret
  exact ⟨rfl, rfl⟩
/-- What stands ahead of a piece. -/
def sumN (kind : Nat) (l : List Nat) : Nat := maskN (moreN (moreN 0 [kind]) l)
theorem sumN_lt (kind : Nat) (l : List Nat) : sumN kind l < 2 ^ 32 := maskN_lt _
set_option maxHeartbeats 800000 in
theorem sum1_ok (k g cap : Nat) (hk : k < 256) (w : World) (hc : w.cell? ⟨g, 0, none⟩ = some (.int .u8 (k : Nat))) (hg : g < w.heap.size) :
    Calls Try.prog 32 #[.slice (some ⟨g, 0, none⟩) 1 cap] w fun e w' => e = .returned (.int .u32 (moreN 0 [k] : Nat)) ∧ w = w' := by
  have HM := Lib.hid (more_ne 0 g 0 cap [k] (by decide) (by simpa using hk) (by simp) w ⟨hg, fun j hj => by
    have : j = 0 := by simpa using hj
    subst this; exact hc⟩)
  clear hc hg
  go_enter Try.func32, Try.ntmps32
  go_wp2_with fail
  refine (HM.out).mono ?_
  rintro e w' ⟨rfl, rfl⟩
  go_wp2
  go_ret
  exact ⟨rfl, rfl⟩
set_option maxHeartbeats 800000 in
theorem sum_ok (k : Nat) (l : List Nat) (hk : k < 256) (v : Value) (w : World) (hv : Bytes w v l) :
    Calls Try.prog 26 #[.int .u8 k, v] w fun e w' => e = .returned (.int .u32 (sumN k l : Nat)) ∧ Below w.heap.size w w' := by
  have hm0 : moreN 0 [k] < 2 ^ 32 := moreN_lt 0 [k] (by decide) (by simpa using hk)
  have hml : moreN (moreN 0 [k]) l < 2 ^ 32 := moreN_lt _ l hm0 hv.1
  have HS := Lib.hid (sum1_ok k w.heap.size 1 hk (w.alloc (.cells #[.int .u8 k] 5)) (by simp [go_sem]) (by simp))
  have HM := Lib.hid (more_ok _ l hm0 v (w.alloc (.cells #[.int .u8 k] 5)) (hv.below ((Below.refl w.heap.size w).alloc (Nat.le_refl _) _) (fun g hg hl => by
    obtain ⟨_, ao, cap, rfl, _, _, h4⟩ := hv
    rcases h4 with h4 | ⟨g', off, rfl, hr⟩
    · exact absurd h4 hl
    · simp [Value.ownBlock] at hg; rw [← hg]; exact hr.1)))
  have HK := Lib.hid (mask_ok _ hml)
  unfold sumN
  generalize maskN (moreN (moreN 0 [k]) l) = Z at *
  generalize moreN (moreN 0 [k]) l = Y at *
  generalize moreN 0 [k] = X at *
  obtain ⟨h1, ao, cap, rfl, h2, h3, h4⟩ := hv
  clear hm0 hml h1 h2 h3 h4
  go_enter Try.func26, Try.ntmps26
  go_wp2_with fail
  refine (HS.out).mono ?_
  rintro e w' ⟨rfl, rfl⟩
  go_wp2_with fail
  refine (HM.out).mono ?_
  rintro e w' ⟨rfl, rfl⟩
  go_wp2_with fail
  refine (HK.out _).mono ?_
  rintro e w' ⟨rfl, rfl⟩
  go_wp2
  go_ret
  exact ⟨rfl, (Below.refl _ _).alloc (Nat.le_refl _) _⟩

/-- How many noughts stand ahead of a piece; how many bytes of records fit. -/
def padN (at' : Nat) : Nat := if 128 - at' % 128 < 7 then 128 - at' % 128 else 0
def roomN (at' : Nat) : Nat := if 7 ≤ 128 - at' % 128 then 128 - at' % 128 - 7 else 121
set_option maxHeartbeats 800000 in
theorem pad_ok (a : Nat) (ha : a ≤ 9223372036854775807) (w : World) : Calls Try.prog 16 #[.int .i64 a] w fun e w' => e = .returned (.int .i64 (padN a : Nat)) ∧ w = w' := by
  have hm : a % 128 < 128 := Nat.mod_lt _ (by decide)
  have hc : ((a : Int) % 128) = ((a % 128 : Nat) : Int) := by omega
  by_cases h : 128 - a % 128 < 7
  · have H : Hid (padN a = 128 - a % 128) := Lib.hid (if_pos h)
    rw [H.out]
    have e : ((128 - a % 128 : Nat) : Int) = 128 - ((a % 128 : Nat) : Int) := by omega
    rw [e]
    generalize a % 128 = m at *
    have h2 : 128 - (m : Int) < 7 := by omega
    clear e H
    go_enter Try.func16, Try.ntmps16
    go_wp2
    go_ret
    exact ⟨rfl, rfl⟩
  · have H : Hid (padN a = 0) := Lib.hid (if_neg h)
    rw [H.out]
    generalize a % 128 = m at *
    have h2 : decide (128 - (m : Int) < 7) = false := by simp; omega
    clear H
    go_enter Try.func16, Try.ntmps16
    go_wp2
    go_ret
    exact ⟨rfl, rfl⟩
set_option maxHeartbeats 800000 in
theorem room_ok (a : Nat) (ha : a ≤ 9223372036854775807) (w : World) : Calls Try.prog 17 #[.int .i64 a] w fun e w' => e = .returned (.int .i64 (roomN a : Nat)) ∧ w = w' := by
  have hm : a % 128 < 128 := Nat.mod_lt _ (by decide)
  have hc : ((a : Int) % 128) = ((a % 128 : Nat) : Int) := by omega
  have hn : decide ((a : Int) < 0) = false := by simp
  by_cases h : 7 ≤ 128 - a % 128
  · have H : Hid (roomN a = 128 - a % 128 - 7) := Lib.hid (if_pos h)
    rw [H.out]
    have e : ((128 - a % 128 - 7 : Nat) : Int) = 128 - ((a % 128 : Nat) : Int) - 7 := by omega
    rw [e]
    generalize a % 128 = m at *
    have h2 : 0 ≤ 128 - (m : Int) - 7 := by omega
    clear e H
    go_enter Try.func17, Try.ntmps17
    go_wp2
    go_ret
    exact ⟨rfl, rfl⟩
  · have H : Hid (roomN a = 121) := Lib.hid (if_neg h)
    rw [H.out]
    generalize a % 128 = m at *
    have h2 : decide (0 ≤ 128 - (m : Int) - 7) = false := by simp; omega
    clear H
    go_enter Try.func17, Try.ntmps17
    go_wp2
    go_ret
    exact ⟨rfl, rfl⟩
def kindN (begins ends : Bool) : Nat := if begins && ends then 1 else if begins then 2 else if ends then 4 else 3
set_option maxHeartbeats 800000 in
theorem kind_ok (b e' : Bool) (w : World) : Calls Try.prog 19 #[.bool b, .bool e'] w fun e w' => e = .returned (.int .u8 (kindN b e' : Nat)) ∧ w = w' := by
  cases b <;> cases e' <;>
  · go_enter Try.func19, Try.ntmps19
    go_wp2
    go_ret
    exact ⟨rfl, rfl⟩
end Go.Proofs.Ytcgbellmclhlpaa
