/-
  Records: contract of batch's Check, of changes that may be made together.
-/
import Derived.Test.YtcgbellmclhlpaaR11
namespace Go.Proofs.Ytcgbellmclhlpaa
set_option linter.unusedVariables false
set_option linter.unusedSimpArgs false
open Go.RowKit Vi Sl

def OpR.agg (x : OpR) : Value := .agg #[.int .i64 x.kind, .string x.key, .string x.val]

set_option maxHeartbeats 800000 in
theorem long_ok (xk : Int) (xs xv : ByteArray) (h1 : xs.size ≤ 64) (h2 : xv.size ≤ 1000) (w : World) :
    Calls Try.prog 23 #[.agg #[.int .i64 xk, .string xs, .string xv]] w fun e w' => e = .returned (.bool false) ∧ Below w.heap.size w w' := by
  have i1 : decide ((64 : Int) < xs.size) = false := by simp; omega
  have i2 : decide ((1000 : Int) < xv.size) = false := by simp; omega
  clear h1 h2
  go_enter Try.func23, Try.ntmps23
  go_wp2
  go_ret
  exact ⟨rfl, (Below.refl _ _).alloc (Nat.le_refl _) _⟩

set_option maxHeartbeats 800000 in
theorem odd_ok (xk : Int) (xs xv : ByteArray) (h1 : ¬ xs.toList = []) (h2 : xk = 0 ∧ xv.toList = [] ∨ xk = 1) (w : World) :
    Calls Try.prog 24 #[.agg #[.int .i64 xk, .string xs, .string xv]] w fun e w' => e = .returned (.bool false) ∧ Below w.heap.size w w' := by
  have i1 : xs.toList.isEmpty = false := by simp [h1]
  rcases h2 with ⟨rfl, h2⟩ | rfl
  · have i2 : xv.toList.isEmpty = true := by simp [h2]
    clear h1 h2
    go_enter Try.func24, Try.ntmps24
    go_wp2
    go_ret
    exact ⟨rfl, (Below.refl _ _).alloc (Nat.le_refl _) _⟩
  · clear h1
    go_enter Try.func24, Try.ntmps24
    go_wp2
    go_ret
    exact ⟨rfl, (Below.refl _ _).alloc (Nat.le_refl _) _⟩
end Go.Proofs.Ytcgbellmclhlpaa
