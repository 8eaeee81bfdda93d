/-
  Conv: contract of DocSwap; its answer is the program's.
-/
import Derived.Test.YtdoaepopkdeonaaD3
namespace Go.Proofs.Ytdoaepopkdeonaa
set_option linter.unusedVariables false
set_option linter.unusedSimpArgs false
open Go.RowKit

theorem wd_mod (kind : Int) : wd kind % 8 = 0 := by unfold wd; split <;> (try split) <;> (try split) <;> rfl
def swapI (b q : Nat) : Nat := b - 8 - q / 8 * 8 + q % 8
theorem swapI_lt (b q : Nat) (hb : 8 ≤ b) (h8 : b % 8 = 0) (hq : q < b) : swapI b q < b := by unfold swapI; omega
theorem swapI_swapI (b q : Nat) (hb : 8 ≤ b) (h8 : b % 8 = 0) (hq : q < b) : swapI b (swapI b q) = q := by unfold swapI; omega
def swapF (N b q : Nat) : Bool := N.testBit (swapI b q)

set_option maxHeartbeats 800000 in
theorem docSwap_ok (kind n : Int) (h0 : 0 ≤ kind) (h7 : kind ≤ 7) (w : World) :
    Calls Try.prog 35 #[.int .i64 kind, .int .i64 n] w fun e w' =>
      e = .returned (.tuple #[.int .i64 (tellK kind (wd kind) (wholeN (listB (swapF (U n) (wd kind)) (wd kind)))), .int .i64 0]) ∧ Below w.heap.size w w' := by
  obtain ⟨i0, hi, hz0, hz1, hz2⟩ := info_parts Try.info4
  obtain ⟨hwd1, hwd2⟩ := wd_bd kind
  have h8 := wd_mod kind
  have HWD := Lib.hid (width_ok kind h0 h7)
  generalize wd kind = b at *
  have hbz : ((b : Int) == 0) = false := by simp; omega
  have H8 := Lib.hid h8
  clear h8
  go_enter Try.func35, Try.ntmps35
  go_wp2_with (go_at_call 36; refine (HWD.out _).mono ?_; rintro e w1 ⟨rfl, hb1⟩)
  refine (split_int n b hwd2 (by omega) _).mono ?_
  rintro e w2 ⟨g, off, cap, rfl, hg, hc, hb2⟩
  have HC := Lib.hid hc
  clear hc
  go_wp2_with (at_make; refine wpList_make_full _ rfl _ _ 52 rfl w2.heap.size 4 i0 (.bool false) 1 Try.underlying52 hi hz0 hz1 .i64 .i64 _ _ b rfl rfl rfl rfl ?c1 ?c2 ?c3 ?_)
  case c1 => rw [hz2]; omega
  case c2 => unfold maxLen; omega
  case c3 => exact Nat.le_refl _
  intro w3 hown hgrow
  rw [rowB_made] at hown
  have hb3 : Below w2.heap.size w2 w3 := (Below.refl _ _).grown hgrow (Nat.le_refl _) (fun k hk => by cases hk)
  clear hgrow
  go_wp2
  go_loopw [9] (fun i wr => ∃ k : Nat, k ≤ b ∧ i = .int .i64 k ∧ wr.ownsRow w2.heap.size 4 1 (.slice (some ⟨w2.heap.size, 0, none⟩) b b) b (rowB (fun q => decide (swapI b q < k) && swapF (U n) b q) b) ∧ Below w2.heap.size w2 wr)
    (fun i _ => b - (intOf i).toNat)
  case atStart => exact ⟨0, Nat.zero_le _, rfl, by simpa using hown, hb3⟩
  case round =>
    clear hown hb3
    obtain ⟨k, hk, rfl, hown, hnx⟩ := hrel
    by_cases hlt : k < b
    · have hp := swapI_lt b k hwd1 H8.out hlt
      have hpp := swapI_swapI b k hwd1 H8.out hlt
      have hck : wr.cell? ⟨g, off + k, none⟩ = some (.bool ((U n).testBit k)) := (hnx.cell (by exact hg)).trans (HC.out _ (by omega))
      have hco := hown.cellAt (swapI b k) (by omega)
      rw [rowB_get _ _ _ hp] at hco
      have hcf := hown.frozenAt (swapI b k)
      obtain ⟨hst, hgr⟩ := hown.stored (swapI b k) (.bool ((U n).testBit k))
      rw [rowB_set _ (fun q => decide (swapI b q < k + 1) && swapF (U n) b q) b (swapI b k) _ (by simp [swapF, hpp]) (by
        intro q hq hne
        have : swapI b q ≠ k := fun h => hne (by rw [← h, swapI_swapI _ _ hwd1 H8.out hq])
        congr 1; simp; omega)] at hst
      have HST := Lib.hid hst
      have hb4 := hnx.setCell (p := ⟨w2.heap.size, swapI b k, none⟩) (Nat.le_refl _) (.bool ((U n).testBit k))
      generalize (U n).testBit k = d at *
      generalize (decide (swapI b (swapI b k) < k) && swapF (U n) b (swapI b k)) = d2 at *
      have hx : k / 8 * 8 + 8 ≤ b := by have := H8.out; omega
      have es : swapI b k = b - 8 - k / 8 * 8 + k % 8 := rfl
      rw [es] at hco hcf hp HST hb4
      clear hst hgr hown hpp es
      go_wp2
      go_roundw
      case rel => exact ⟨k + 1, by omega, by go_num, HST.out, hb4⟩
      case measure => simp [intOf]; omega
    · have : k = b := by omega
      subst this
      have e1 : rowB (fun q => decide (swapI k q < k) && swapF (U n) k q) k = rowB (swapF (U n) k) k := rowB_congr _ _ _ (by intro q hq; simp [swapI_lt _ _ hwd1 H8.out hq])
      rw [e1] at hown
      have HT := Lib.hid (told_any kind _ _ k wr _ (by omega) hwd2 hown)
      clear hown e1
      go_wp2_with (go_at_call 39; refine (HT.out).mono ?_; rintro e w' ⟨rfl, hb4⟩)
      go_ret2
      exact ⟨rfl, ((hb1.trans (hb2.mono hb1.size)).trans (hnx.mono (Nat.le_trans hb1.size hb2.size))).trans (hb4.mono (Nat.le_trans (Nat.le_trans hb1.size hb2.size) hnx.size))⟩

theorem law_swap (kind n : Int) : tellK kind (wd kind) (wholeN (listB (swapF (U n) (wd kind)) (wd kind))) = swapK kind n := by
  unfold swapK
  apply tell_eq
  intro i hi
  obtain ⟨hb, hb2⟩ := wd_bd kind
  have h8 := wd_mod kind
  generalize wd kind = b at *
  have hX : U n * 2 ^ (64 - b) % 2 ^ 64 < 2 ^ 64 := Nat.mod_lt _ (by decide)
  have hR := revN_lt _ hX
  have hle : revN (U n * 2 ^ (64 - b) % 2 ^ 64) &&& (2 ^ b - 1) ≤ revN (U n * 2 ^ (64 - b) % 2 ^ 64) := Nat.and_le_left
  rw [U_wrap64, U_nat, Nat.mod_eq_of_lt (by omega), Nat.testBit_and, Nat.testBit_two_pow_sub_one, rev_bit _ i hX (by omega), Nat.testBit_mod_two_pow, ← Nat.shiftLeft_eq, Nat.testBit_shiftLeft]
  simp only [hi, decide_true, Bool.and_true, show 56 - i / 8 * 8 + i % 8 < 64 by omega, Bool.true_and, show 64 - b ≤ 56 - i / 8 * 8 + i % 8 by omega]
  unfold swapF swapI
  congr 1
  omega
set_option maxHeartbeats 800000 in
theorem docSwap_no (kind n : Int) (hk : kind < 0 ∨ 7 < kind) (w : World) :
    Calls Try.prog 35 #[.int .i64 kind, .int .i64 n] w fun e w' => e = .returned (.tuple #[.int .i64 0, .int .i64 1]) ∧ Below w.heap.size w w' := by
  have HW := Lib.hid (width_no kind hk)
  clear hk
  go_enter Try.func35, Try.ntmps35
  go_wp2_with (go_at_call 36; refine (HW.out _).mono ?_; rintro e w' ⟨rfl, rfl⟩)
  go_ret2
  exact ⟨rfl, Below.refl _ _⟩
set_option maxHeartbeats 800000 in
theorem swap_no (kind n : Int) (hk : kind < 0 ∨ 7 < kind) (w : World) :
    Calls Try.prog 27 #[.int .i64 kind, .int .i64 n] w fun e w' => e = .returned (.tuple #[.int .i64 0, .int .i64 1]) ∧ Below w.heap.size w w' := by
  have HW := Lib.hid (bits_no kind hk)
  clear hk
  go_enter Try.func27, Try.ntmps27
  go_wp2_with (go_at_call 31; refine (HW.out _).mono ?_; rintro e w' ⟨rfl, rfl⟩)
  go_ret2
  exact ⟨rfl, Below.refl _ _⟩
/-- Swap: the reference's answer and the program's are one. -/
def CP (f : Nat) (k n r e : Int) : Prop := ∀ w, Calls Try.prog f #[.int .i64 k, .int .i64 n] w fun en w' => en = .returned (.tuple #[.int .i64 r, .int .i64 e]) ∧ Below w.heap.size w w'
theorem CP.use {f : Nat} {k n r e : Int} (h : CP f k n r e) (w : World) : Calls Try.prog f #[.int .i64 k, .int .i64 n] w fun en w' => en = .returned (.tuple #[.int .i64 r, .int .i64 e]) ∧ Below w.heap.size w w' := h w
theorem swap_both (kind n : Int) (h0 : 0 ≤ kind) (h7 : kind ≤ 7) : CP 35 kind n (swapK kind n) 0 ∧ CP 27 kind n (swapK kind n) 0 := by
  refine ⟨fun w => ?_, fun w => swap_ok kind n h0 h7 w⟩
  rw [← law_swap]; exact docSwap_ok kind n h0 h7 w
end Go.Proofs.Ytdoaepopkdeonaa
