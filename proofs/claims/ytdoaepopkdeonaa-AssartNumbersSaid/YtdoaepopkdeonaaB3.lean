/-
  Conv: DocLeft, DocRight: where there is no answer; their answers in the program's words.
-/
import Derived.Test.YtdoaepopkdeonaaP1
namespace Go.Proofs.Ytdoaepopkdeonaa
set_option linter.unusedVariables false
set_option linter.unusedSimpArgs false
open Go.RowKit

theorem below_of_eq {w w' : World} (h : w = w') : Below w.heap.size w w' := h ▸ Below.refl _ _
theorem below_trans {w a b : World} (h : Below w.heap.size w a) (k : Below a.heap.size a b) : Below w.heap.size w b := h.trans (k.mono h.size)

set_option maxHeartbeats 800000 in
theorem docLeft_no (kind n m : Int) (hk : kind < 0 ∨ 7 < kind) (w : World) :
    Calls Try.prog 12 #[.int .i64 kind, .int .i64 n, .int .i64 m] w fun e w' => e = .returned (.tuple #[.int .i64 0, .int .i64 1]) ∧ Below w.heap.size w w' := by
  have HW := Lib.hid (width_no kind hk)
  clear hk
  go_enter Try.func12, Try.ntmps12
  go_wp2_with (go_at_call 36; refine (HW.out _).mono ?_; rintro e w' ⟨rfl, rfl⟩)
  go_ret2
  exact ⟨rfl, Below.refl _ _⟩
set_option maxHeartbeats 800000 in
theorem docLeft_neg (kind n m : Int) (h0 : 0 ≤ kind) (h7 : kind ≤ 7) (hm : m < 0) (w : World) :
    Calls Try.prog 12 #[.int .i64 kind, .int .i64 n, .int .i64 m] w fun e w' => e = .returned (.tuple #[.int .i64 0, .int .i64 1]) ∧ Below w.heap.size w w' := by
  obtain ⟨hwd1, hwd2⟩ := wd_bd kind
  have HW := Lib.hid (width_ok kind h0 h7)
  generalize wd kind = b at *
  have hbz : ((b : Int) == 0) = false := by simp; omega
  clear h0 h7
  go_enter Try.func12, Try.ntmps12
  go_wp2_with (go_at_call 36; refine (HW.out _).mono ?_; rintro e w1 ⟨rfl, hb1⟩)
  go_ret2
  exact ⟨rfl, hb1⟩
set_option maxHeartbeats 800000 in
theorem docRight_no (kind n m : Int) (hk : kind < 0 ∨ 7 < kind) (w : World) :
    Calls Try.prog 14 #[.int .i64 kind, .int .i64 n, .int .i64 m] w fun e w' => e = .returned (.tuple #[.int .i64 0, .int .i64 1]) ∧ Below w.heap.size w w' := by
  have HW := Lib.hid (width_no kind hk)
  clear hk
  go_enter Try.func14, Try.ntmps14
  go_wp2_with (go_at_call 36; refine (HW.out _).mono ?_; rintro e w' ⟨rfl, rfl⟩)
  go_ret2
  exact ⟨rfl, Below.refl _ _⟩
set_option maxHeartbeats 800000 in
theorem docRight_neg (kind n m : Int) (h0 : 0 ≤ kind) (h7 : kind ≤ 7) (hm : m < 0) (w : World) :
    Calls Try.prog 14 #[.int .i64 kind, .int .i64 n, .int .i64 m] w fun e w' => e = .returned (.tuple #[.int .i64 0, .int .i64 1]) ∧ Below w.heap.size w w' := by
  obtain ⟨hwd1, hwd2⟩ := wd_bd kind
  have HW := Lib.hid (width_ok kind h0 h7)
  generalize wd kind = b at *
  have hbz : ((b : Int) == 0) = false := by simp; omega
  clear h0 h7
  go_enter Try.func14, Try.ntmps14
  go_wp2_with (go_at_call 36; refine (HW.out _).mono ?_; rintro e w1 ⟨rfl, hb1⟩)
  go_ret2
  exact ⟨rfl, hb1⟩

/-- Left: the reference's answer and the program's are one. -/
theorem left_both (kind n m : Int) (hn : Fits n) (hm : Fits m) : ∃ A E : Int,
    (∀ w, Calls Try.prog 12 #[.int .i64 kind, .int .i64 n, .int .i64 m] w fun e w' => e = .returned (.tuple #[.int .i64 A, .int .i64 E]) ∧ Below w.heap.size w w') ∧
    (∀ w, Calls Try.prog 13 #[.int .i64 kind, .int .i64 n, .int .i64 m] w fun e w' => e = .returned (.tuple #[.int .i64 A, .int .i64 E]) ∧ w = w') := by
  by_cases hk : kind < 0 ∨ 7 < kind
  · refine ⟨0, 1, docLeft_no kind n m hk, fun w => ?_⟩
    by_cases h : m < 0
    · exact left_neg kind n m h w
    · exact left_no kind n m hk (by omega) w
  · by_cases h : m < 0
    · exact ⟨0, 1, docLeft_neg kind n m (by omega) (by omega) h, left_neg kind n m h⟩
    · refine ⟨_, _, fun w => ?_, left_ok kind n m (by omega) (by omega) (by omega) hm.2⟩
      rw [← law_left]
      exact docLeft_ok kind n m (by omega) (by omega) (by omega) w
theorem right_both (kind n m : Int) (hn : Fits n) (hm : Fits m) : ∃ A E : Int,
    (∀ w, Calls Try.prog 14 #[.int .i64 kind, .int .i64 n, .int .i64 m] w fun e w' => e = .returned (.tuple #[.int .i64 A, .int .i64 E]) ∧ Below w.heap.size w w') ∧
    (∀ w, Calls Try.prog 15 #[.int .i64 kind, .int .i64 n, .int .i64 m] w fun e w' => e = .returned (.tuple #[.int .i64 A, .int .i64 E]) ∧ w = w') := by
  by_cases hk : kind < 0 ∨ 7 < kind
  · refine ⟨0, 1, docRight_no kind n m hk, fun w => ?_⟩
    by_cases h : m < 0
    · exact right_neg kind n m h w
    · exact right_no kind n m hk (by omega) hm.2 w
  · by_cases h : m < 0
    · exact ⟨0, 1, docRight_neg kind n m (by omega) (by omega) h, right_neg kind n m h⟩
    · refine ⟨_, _, fun w => ?_, right_ok kind n m (by omega) (by omega) hn (by omega) hm.2⟩
      rw [← law_right kind n m.toNat (by omega) (by omega)]
      exact docRight_ok kind n m (by omega) (by omega) (by omega) w
end Go.Proofs.Ytdoaepopkdeonaa
