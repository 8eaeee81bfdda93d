/-
  Conv: contract of Whole.
-/
import Derived.Test.YtdoaepopkdeonaaA2
namespace Go.Proofs.Ytdoaepopkdeonaa
set_option linter.unusedVariables false
set_option linter.unusedSimpArgs false
open Go.RowKit

def wholeN : List Bool → Nat
  | [] => 0
  | b :: l => 2 * wholeN l + (if b then 1 else 0)
theorem wholeN_lt (l : List Bool) : wholeN l < 2 ^ l.length := by
  induction l with
  | nil => simp [wholeN]
  | cons b l ih => simp only [wholeN, List.length_cons, Nat.pow_succ]; split <;> omega
theorem wholeN_testBit (l : List Bool) (i : Nat) : (wholeN l).testBit i = l.getD i false := by
  induction l generalizing i with
  | nil => simp [wholeN]
  | cons b l ih =>
    cases i with
    | zero => cases b <;> simp [wholeN, Nat.testBit_zero] <;> omega
    | succ i =>
      rw [Nat.testBit_succ]
      have : wholeN (b :: l) / 2 = wholeN l := by simp only [wholeN]; split <;> omega
      rw [this, ih]; simp

/-- A slice that reads as these bools (not the empty one). -/
def Reads (w : World) (v : Value) (bs : List Bool) : Prop :=
  ∃ g off cap, v = .slice (some ⟨g, off, none⟩) bs.length cap ∧ g < w.heap.size ∧ ∀ j, j < bs.length → w.cell? ⟨g, off + j, none⟩ = some (.bool (bs.getD j false))

theorem whole_step (bs : List Bool) (k : Nat) (hk : k < bs.length) : wholeN (bs.drop k) = 2 * wholeN (bs.drop (k + 1)) + (if bs.getD k false then 1 else 0) := by
  rw [List.drop_eq_getElem_cons hk]
  simp [wholeN, hk]
theorem whole_bound (bs : List Bool) (k : Nat) (hl : bs.length ≤ 64) (hk : k < bs.length) : 2 * wholeN (bs.drop (k + 1)) + 1 ≤ 18446744073709551615 := by
  have h := wholeN_lt (bs.drop (k + 1))
  have h2 : 2 ^ (bs.drop (k + 1)).length ≤ 2 ^ 63 := Nat.pow_le_pow_right (by decide) (by simp; omega)
  omega

set_option maxHeartbeats 800000 in
theorem whole_nil (ao : Option Addr) (cap : Nat) (w : World) :
    Calls Try.prog 41 #[.slice ao 0 cap] w fun e w' => e = .returned (.int .u64 0) ∧ w = w' := by
  go_enter Try.func41, Try.ntmps41
  go_wp2
  refine wp_loop_rounds 1 ?_
  rw [rounds_succ]
  go_wp2
  go_ret
  exact ⟨rfl, rfl⟩

set_option maxHeartbeats 800000 in
theorem whole_any (v : Value) (bs : List Bool) (w : World) (hl : bs.length ≤ 64) (hr : Reads w v bs) :
    Calls Try.prog 41 #[v] w fun e w' => e = .returned (.int .u64 (wholeN bs)) ∧ w = w' := by
  obtain ⟨g, off, cap, rfl, hg, hc⟩ := hr
  obtain ⟨len, hlen⟩ : ∃ len, bs.length = len := ⟨_, rfl⟩
  rw [hlen] at hc hl ⊢
  go_enter Try.func41, Try.ntmps41
  go_wp2
  go_loop [3, 4] (fun n i => ∃ k : Nat, k ≤ len ∧ i = .int .i64 ((k : Int) - 1) ∧ n = .int .u64 (wholeN (bs.drop k)))
    (fun _ i => (intOf i + 1).toNat)
  case atStart => exact ⟨len, Nat.le_refl _, rfl, by rw [← hlen]; simp [wholeN]⟩
  case round =>
    obtain ⟨k, hk, rfl, rfl⟩ := hrel
    by_cases hk0 : k = 0
    · subst hk0
      go_wp2
      go_ret
      exact ⟨by simp, rfl⟩
    · obtain ⟨j, rfl⟩ : ∃ j, k = j + 1 := ⟨k - 1, by omega⟩
      have hb := whole_bound bs j (by omega) (by omega)
      have hs := whole_step bs j (by omega)
      have hcell := hc j (by omega)
      generalize wholeN (bs.drop (j + 1)) = q at *
      generalize bs.getD j false = d at *
      have HS := Lib.hid hs
      have HL := Lib.hid hlen
      have e1 : ((j + 1 : Nat) : Int) - 1 = j := by omega
      have hb2 : 2 * (q : Int) + 1 ≤ 18446744073709551615 := by omega
      rw [e1]
      clear hs hc hk0 e1 hb hlen
      cases d
      all_goals
        go_wp2
        go_round
        case rel => exact ⟨j, by omega, by go_num, by rw [HS.out]; simp⟩
        case measure => simp [intOf]; try omega
end Go.Proofs.Ytdoaepopkdeonaa
