/-
  Records: contract of the document's Ops.
-/
import Derived.Test.YtcgbellmclhlpaaR10
namespace Go.Proofs.Ytcgbellmclhlpaa
set_option linter.unusedVariables false
set_option linter.unusedSimpArgs false
open Go.RowKit Vi Sl

set_option maxHeartbeats 1600000 in
theorem ops_ok (g o cap g' o' cap' : Nat) (l : List OpR) (hl : l.length ≤ 1000000) (w : World) (h1 : OpsAt w g o l) (h2 : OpsAt w g' o' l) :
    Calls Try.prog 10 #[.slice (some ⟨g, o, none⟩) l.length cap, .slice (some ⟨g', o', none⟩) l.length cap'] w fun e w' => e = .returned (.bool true) ∧ Below w.heap.size w w' := by
  obtain ⟨n, hn⟩ : ∃ n, l.length = n := ⟨_, rfl⟩
  have HN := Lib.hid hn
  have H1 := Lib.hid h1
  have H2 := Lib.hid h2
  rw [hn] at hl ⊢
  clear h1 h2 hn
  go_enter Try.func10, Try.ntmps10
  go_wp2
  go_loopw [5] (fun i wr => ∃ k : Nat, k ≤ n ∧ i = .int .i64 k ∧ Below w.heap.size w wr) (fun i _ => n - (intOf i).toNat)
  case atStart => exact ⟨0, Nat.zero_le _, rfl, Below.refl _ _⟩
  case round =>
    obtain ⟨k, hk, rfl, hnx⟩ := hrel
    by_cases hkn : k < n
    · have hkl : k < l.length := by rw [HN.out]; exact hkn
      have e1 := H1.out.below hnx H1.out.1
      have e2 := H2.out.below hnx H2.out.1
      obtain ⟨c1, c2, c3⟩ := e1.2 k hkl
      obtain ⟨d1, d2, d3⟩ := e2.2 k hkl
      have hg1 := e1.1
      have hg2 := e2.1
      obtain ⟨xk, xs, xv, hx⟩ : ∃ a b c, l[k] = OpR.mk a b c := ⟨_, _, _, rfl⟩
      rw [hx] at c1 c2 c3 d1 d2 d3
      simp only at c1 c2 c3 d1 d2 d3
      have HNX := Lib.hid hnx
      clear hx e1 e2 hnx
      go_wp2
      go_quiet (fail)
      go_wp2
      go_roundw
      case rel => exact ⟨k + 1, by omega, by go_num, below_drawn HNX.out _⟩
      case measure => simp [intOf]; omega
    · have : k = n := by omega
      subst this
      go_wp2
      go_ret
      exact ⟨rfl, hnx⟩
end Go.Proofs.Ytcgbellmclhlpaa
