/-
  Numbers as bytes: contracts of Put and Get of package varint; of awake.
-/
import Derived.Test.YtcgbellmclhlpaaV1
namespace Go.Proofs.Ytcgbellmclhlpaa.Vi
set_option linter.unusedVariables false
set_option linter.unusedSimpArgs false
open Go.RowKit

/-- The shortest bytes of a number, k of them behind the first. -/
def moreL (n k : Nat) : List Nat := (List.range k).map fun i => n / 128 ^ i % 128 + 128
def putL (n k : Nat) : List Nat := moreL n k ++ [n / 128 ^ k]
def Short (n k : Nat) : Prop := k ≤ 9 ∧ n / 128 ^ k < 128 ∧ ∀ i, i < k → 128 ≤ n / 128 ^ i
theorem moreL_succ (n k : Nat) : moreL n (k + 1) = moreL n k ++ [n / 128 ^ k % 128 + 128] := by simp [moreL, List.range_succ]
theorem moreL_len (n k : Nat) : (moreL n k).length = k := by simp [moreL]
theorem putL_len (n k : Nat) : (putL n k).length = k + 1 := by simp [putL, moreL]
theorem putL_get (n k i : Nat) (h : i < k) : (putL n k).getD i 0 = n / 128 ^ i % 128 + 128 := by simp [putL, moreL, h, List.getElem?_append_left]
theorem putL_last (n k : Nat) : (putL n k).getD k 0 = n / 128 ^ k := by simp [putL, moreL]
theorem putL_lt (n k : Nat) (h : n / 128 ^ k < 128) : ∀ x ∈ putL n k, x < 256 := by
  intro x hx
  simp only [putL, moreL, List.mem_append, List.mem_map, List.mem_range, List.mem_singleton] at hx
  rcases hx with ⟨i, _, rfl⟩ | rfl
  · omega
  · omega
theorem or128 : ∀ r : Fin 256, (r.val ||| 128) = r.val % 128 + 128 := by decide +kernel
theorem u8w (n : Int) (h₀ : 0 ≤ n) (h₁ : n < 2 ^ 8) : IntKind.u8.wrap n = n := by rw [IntKind.wrap_u8']; omega
theorem or_more (q : Nat) : bits .or .u8 ((q : Int) % 256) 128 = ((q % 128 + 128 : Nat) : Int) := by
  have e : ((q : Int) % 256) = ((q % 256 : Nat) : Int) := by omega
  have h := (bits_nat .u8 8 (by decide) u8w (q % 256) 128 (by omega) (by decide)).2
  rw [e, show ((128 : Int)) = ((128 : Nat) : Int) from rfl, h, or128 ⟨q % 256, by omega⟩]
  congr 1
  show q % 256 % 128 + 128 = q % 128 + 128
  omega
theorem div_lt_128 (n k : Nat) (hn : n ≤ 18446744073709551615) (hk : 9 ≤ k) : n / 128 ^ k < 128 := by
  rw [Nat.div_lt_iff_lt_mul (Nat.pow_pos (by decide))]
  have : 128 ^ 9 ≤ 128 ^ k := Nat.pow_le_pow_right (by decide) hk
  have h9 : (128 : Nat) * 128 ^ 9 = 2 ^ 70 := by decide
  have : 2 ^ 70 ≤ 128 * 128 ^ k := by rw [← h9]; exact Nat.mul_le_mul_left _ this
  omega

set_option maxHeartbeats 800000 in
theorem put_ok (n : Nat) (hn : n ≤ 18446744073709551615) (w : World) :
    Calls Try.prog 11 #[.int .u64 n] w fun e w' => ∃ v k, e = .returned v ∧ Short n k ∧ Owns w.heap.size w' v (putL n k) ∧ Below w.heap.size w w' := by
  obtain ⟨i0, hi, hz0, hz1, hz2⟩ := info_parts Try.infoByte
  have HD := Lib.hid (fun k hk => div_lt_128 n k hn hk)
  go_enter Try.func11, Try.ntmps11
  go_wp2
  go_loopw [0, 3] (fun t v wr => ∃ k : Nat, k ≤ 9 ∧ t = .int .u64 ((n / 128 ^ k : Nat) : Int) ∧ Hid (∀ i, i < k → 128 ≤ n / 128 ^ i) ∧ wr.ownsRow w.heap.size 5 1 v k (byteV (moreL n k)) ∧ Below w.heap.size w wr)
    (fun t _ _ => (intOf t).toNat)
  case atStart => exact ⟨0, Nat.zero_le _, by simp, Lib.hid (fun i h => absurd h (Nat.not_lt_zero _)), World.ownsRow_nil _ _ _ _, Below.refl _ _⟩
  case round =>
    obtain ⟨k, hk, rfl, hm, hown, hnx⟩ := hrel
    have hd : n / 128 ^ k ≤ n := Nat.div_le_self _ _
    have hnext : n / 128 ^ (k + 1) = n / 128 ^ k / 128 := by rw [Nat.pow_succ, Nat.div_div_eq_div_mul]
    have hsn := moreL_succ n k
    have hput : putL n k = moreL n k ++ [n / 128 ^ k] := rfl
    have hk9 : 128 ≤ n / 128 ^ k → k < 9 := fun h => by
      by_cases h9 : 9 ≤ k
      · have := HD.out k h9; omega
      · omega
    have hor := or_more (n / 128 ^ k)
    generalize hq : n / 128 ^ k = q at *
    have hd2 : (q : Int) ≤ 18446744073709551615 := by omega
    have HN := Lib.hid hnext
    have HS := Lib.hid hsn
    have HQ := Lib.hid hq
    have HP := Lib.hid hput
    clear hq hnext hsn hput hd
    by_cases hlt : 128 ≤ q
    · have hk10 := hk9 hlt
      have hlt2 : (128 : Int) ≤ q := by omega
      clear hk9
      go_wp2_with (first
        | (at_builtin; refine wpList_append_own _ rfl _ _ 27 rfl w.heap.size 5 i0 (.int .u8 0) 1 1 Try.underlying27 hi hz0 hz1 hz2 rfl (by decide) _ _ _ rfl (hown.alloc _) ⟨wr.heap.size, 0, none⟩ 1 1 [.int .u8 ((q % 128 + 128 : Nat) : Int)] rfl rfl ?c1 ?c2 ?c3 ?c4 ?c5 ?_))
      case c1 =>
        intro j u hj
        match j, hj with
        | 0, hj => simp at hj; subst hj; simp [Addr.add]
      case c2 => intro u hu; simp at hu; subst hu; rfl
      case c3 => unfold maxLen; omega
      case c4 => omega
      case c5 => have := hnx.size; simp; omega
      · intro v' w1 hown' hgrow _
        have hB2 : Below w.heap.size w w1 := (hnx.alloc hnx.size _).grown hgrow (by have := hnx.size; simp; omega) (fun k hk => (hown.lt k hk).1)
        have HO := Lib.hid hown'
        clear hown' hgrow hown hnx hor
        go_wp2
        go_roundw
        case rel =>
          refine ⟨k + 1, by omega, by rw [HN.out]; go_num, Lib.hid (fun i h => ?_), by rw [HS.out, byteV_snoc]; exact HO.out, hB2⟩
          by_cases hik : i = k
          · rw [hik, HQ.out]; exact hlt
          · exact hm.out i (by omega)
        case measure => simp [intOf]; omega
    · have hge : decide ((128 : Int) ≤ q) = false := by simp; omega
      clear hor hk9
      go_wp2_with (first
        | (at_builtin; refine wpList_append_own _ rfl _ _ 27 rfl w.heap.size 5 i0 (.int .u8 0) 1 1 Try.underlying27 hi hz0 hz1 hz2 rfl (by decide) _ _ _ rfl (hown.alloc _) ⟨wr.heap.size, 0, none⟩ 1 1 [.int .u8 (q : Int)] rfl rfl ?d1 ?d2 ?d3 ?d4 ?d5 ?_))
      case d1 =>
        intro j u hj
        match j, hj with
        | 0, hj =>
          simp at hj
          subst hj
          have e : ((q : Int) % 256) = q := by omega
          simp [Addr.add]
      case d2 => intro u hu; simp at hu; subst hu; rfl
      case d3 => unfold maxLen; omega
      case d4 => omega
      case d5 => have := hnx.size; simp; omega
      · intro v' w1 hown' hgrow _
        have hB2 : Below w.heap.size w w1 := (hnx.alloc hnx.size _).grown hgrow (by have := hnx.size; simp; omega) (fun k hk => (hown.lt k hk).1)
        have HO := Lib.hid hown'
        clear hown' hgrow hown hnx
        go_wp2
        go_ret
        refine ⟨v', k, rfl, ⟨hk, by rw [HQ.out]; omega, hm.out⟩, ?_, hB2⟩
        unfold Owns
        rw [putL_len, HP.out, byteV_snoc]
        exact HO.out
end Go.Proofs.Ytcgbellmclhlpaa.Vi
