/-
  Conv: contract of Split.
-/
import Derived.Test.YtdoaepopkdeonaaA1
namespace Go.Proofs.Ytdoaepopkdeonaa
open Go.RowKit

def bitsOf (n : Nat) (b : Nat) : List Bool := (List.range b).map fun i => n.testBit i
theorem bitsOf_len (n b : Nat) : (bitsOf n b).length = b := by simp [bitsOf]
theorem bitsOf_succ (n k : Nat) : bitsOf n (k + 1) = bitsOf n k ++ [n.testBit k] := by simp [bitsOf, List.range_succ]
def Bools (B : Nat) (w : World) (v : Value) (bs : List Bool) : Prop := w.ownsRow B 4 1 v bs.length (bs.map Value.bool)

theorem Try.info4 : (Try.prog.info? 4).map (fun i => (i.zero, i.size, i.bytes)) = some (some (.bool false), 1, 1) := by kernel_rfl

theorem low_bit (n k : Nat) : (((n / 2 ^ k : Nat) : Int) % 2 == 1) = n.testBit k := by
  rw [Nat.testBit_eq_decide_div_mod_eq]
  have : ((n / 2 ^ k : Nat) : Int) % 2 = ((n / 2 ^ k % 2 : Nat) : Int) := by omega
  rw [this, Bool.eq_iff_iff, beq_iff_eq, decide_eq_true_iff]
  omega

set_option maxHeartbeats 800000 in
theorem split_any (n : Nat) (b : Nat) (hn : n ≤ 18446744073709551615) (hb : b ≤ 64) (w : World) :
    Calls Try.prog 38 #[.int .u64 n, .int .i64 b] w fun e w' => ∃ v, e = .returned v ∧ Bools w.heap.size w' v (bitsOf n b) ∧ Below w.heap.size w w' := by
  obtain ⟨i0, hi, hz0, hz1, hz2⟩ := info_parts Try.info4
  go_enter Try.func38, Try.ntmps38
  go_wp2
  go_loopw [0, 5, 6] (fun t v i wr => ∃ k : Nat, k ≤ b ∧ i = .int .i64 k ∧ t = .int .u64 ((n / 2 ^ k : Nat) : Int) ∧ wr.ownsRow w.heap.size 4 1 v k ((bitsOf n k).map Value.bool) ∧ Below w.heap.size w wr)
    (fun _ _ i _ => b - (intOf i).toNat)
  case atStart => exact ⟨0, Nat.zero_le _, rfl, by simp, World.ownsRow_nil _ _ _ _, Below.refl _ _⟩
  case round =>
    obtain ⟨k, hk, rfl, rfl, hown, hnx⟩ := hrel
    have hd : n / 2 ^ k ≤ n := Nat.div_le_self _ _
    have hd2 : ((n / 2 ^ k : Nat) : Int) ≤ 18446744073709551615 := by omega
    have hd3 : 0 ≤ ((n / 2 ^ k : Nat) : Int) := Int.natCast_nonneg _
    have hb' := low_bit n k
    have hs : n / 2 ^ (k + 1) = n / 2 ^ k / 2 := by rw [Nat.pow_succ, Nat.div_div_eq_div_mul]
    generalize hq : n / 2 ^ k = q at *
    have HQ := Lib.hid hs
    have HB := Lib.hid hb'
    clear hq hb' hd hs
    go_wp2_with (first
      | (at_builtin; refine wpList_append_own _ rfl _ _ 52 rfl w.heap.size 4 i0 (.bool false) 1 1 Try.underlying52 hi hz0 hz1 hz2 rfl (by decide) _ _ _ rfl (hown.alloc _) ⟨wr.heap.size, 0, none⟩ 1 1 [.bool ((q : Int) % 2 == 1)] rfl rfl ?c1 ?c2 ?c3 ?c4 ?c5 ?_))
    case c1 =>
      intro j u hj
      match j, hj with
      | 0, hj => simp at hj; subst hj; simp [Addr.add]
    case c2 => intro u hu; simp at hu; subst hu; rfl
    case c3 => unfold maxLen; omega
    case c4 => omega
    case c5 => have := hnx.size; simp; omega
    · intro v' w1 hown' hgrow _
      have hlt : k < b := by assumption
      have hB2 : Below w.heap.size w w1 := (hnx.alloc hnx.size _).grown hgrow (by have := hnx.size; simp; omega) (fun k hk => (hown.lt k hk).1)
      have HO := Lib.hid hown'
      clear hown' hgrow hown hnx
      go_wp2
      go_roundw
      case rel => exact ⟨k + 1, by omega, by go_num, by rw [HQ.out]; go_num, by rw [bitsOf_succ, List.map_append, ← HB.out]; exact HO.out, hB2⟩
      case measure => simp [intOf]; omega
    · have : k = b := by omega
      subst this
      go_ret
      exact ⟨_, rfl, by unfold Bools; rw [bitsOf_len]; exact hown, hnx⟩
end Go.Proofs.Ytdoaepopkdeonaa
