/-
  Conv: contract of DocTurn; its answer is the program's.
-/
import Derived.Test.YtdoaepopkdeonaaE3
namespace Go.Proofs.Ytdoaepopkdeonaa
set_option linter.unusedVariables false
set_option linter.unusedSimpArgs false
open Go.RowKit

def turnI (b s q : Nat) : Nat := (q + b - s) % b
def turnF (N b s q : Nat) : Bool := N.testBit (turnI b s q)
theorem turn_there (b s k : Nat) (hs : s < b) (hk : k < b) : turnI b s ((k + s) % b) = k := by
  unfold turnI
  by_cases h : k + s < b
  · rw [Nat.mod_eq_of_lt h, show k + s + b - s = k + b by omega, Nat.add_mod_right, Nat.mod_eq_of_lt hk]
  · have e : (k + s) % b = k + s - b := by rw [show k + s = (k + s - b) + b by omega, Nat.add_mod_right, Nat.mod_eq_of_lt (by omega)]; omega
    rw [e, show k + s - b + b - s = k by omega, Nat.mod_eq_of_lt hk]
theorem turn_back (b s q : Nat) (hs : s < b) (hq : q < b) : (turnI b s q + s) % b = q := by
  unfold turnI
  by_cases h : s ≤ q
  · have e : (q + b - s) % b = q - s := by rw [show q + b - s = (q - s) + b by omega, Nat.add_mod_right, Nat.mod_eq_of_lt (by omega)]
    rw [e, show q - s + s = q by omega, Nat.mod_eq_of_lt hq]
  · have e : (q + b - s) % b = q + b - s := Nat.mod_eq_of_lt (by omega)
    rw [e, show q + b - s + s = q + b by omega, Nat.add_mod_right, Nat.mod_eq_of_lt hq]
theorem tmod_gt (m : Int) (b : Nat) (hb : 1 ≤ b) : -(b : Int) < m.tmod b := by
  rw [Int.tmod_eq_emod]
  have h1 := Int.emod_nonneg m (show (b : Int) ≠ 0 by omega)
  have h2 := Int.emod_lt_of_pos m (show (0 : Int) < b by omega)
  by_cases h : 0 ≤ m
  · rw [if_pos (.inl h)]; omega
  · by_cases hd : (b : Int) ∣ m
    · rw [if_pos (.inr hd)]; omega
    · rw [if_neg (by simp [h, hd])]
      have : m % (b : Int) ≠ 0 := fun h0 => hd (Int.dvd_of_emod_eq_zero h0)
      omega
theorem turn_to (m : Int) (b k : Nat) (hb : 1 ≤ b) (hk : k < b) : ((k : Int) + m.tmod b + b).tmod b = (((k + sN m b) % b : Nat) : Int) := by
  have h1 := Int.tmod_lt_of_pos m (show (0 : Int) < b by omega)
  have h2 := tmod_gt m b (by omega)
  rw [Int.tmod_eq_emod_of_nonneg (by omega), Int.natCast_emod, Int.natCast_add, ← sN_tmod m b hb, sN_cast _ b hb]
  rw [Int.add_emod_right, Int.add_emod_emod]

theorem law_turn (kind n m : Int) : tellK kind (wd kind) (wholeN (listB (turnF (U n) (wd kind) (sN m (wd kind))) (wd kind))) = turnK kind n m := by
  unfold turnK
  apply tell_eq
  intro i hi
  obtain ⟨hb, hb2⟩ := wd_bd kind
  have hs := sN_lt m (wd kind) (by omega)
  generalize wd kind = b at *
  have hlt : U n % 2 ^ b < 2 ^ b := Nat.mod_lt _ (Nat.two_pow_pos _)
  have hr := rotN_lt (U n % 2 ^ b) b (sN m b) hlt
  have hp : 2 ^ b ≤ 2 ^ 64 := Nat.pow_le_pow_right (by decide) hb2
  rw [U_nat, Nat.mod_eq_of_lt (by omega), rotN_bit _ _ _ _ hlt hs hi, Nat.testBit_mod_two_pow]
  have hq : (i + b - sN m b) % b < b := Nat.mod_lt _ (by omega)
  simp only [hq, decide_true, Bool.true_and]
  rfl

set_option maxHeartbeats 1600000 in
theorem docTurn_ok (kind n m : Int) (h0 : 0 ≤ kind) (h7 : kind ≤ 7) (w : World) :
    Calls Try.prog 37 #[.int .i64 kind, .int .i64 n, .int .i64 m] w fun e w' =>
      e = .returned (.tuple #[.int .i64 (tellK kind (wd kind) (wholeN (listB (turnF (U n) (wd kind) (sN m (wd kind))) (wd kind)))), .int .i64 0]) ∧ Below w.heap.size w w' := by
  obtain ⟨i0, hi, hz0, hz1, hz2⟩ := info_parts Try.info4
  obtain ⟨hwd1, hwd2⟩ := wd_bd kind
  have HWD := Lib.hid (width_ok kind h0 h7)
  generalize wd kind = b at *
  have hs := sN_lt m b (by omega)
  have HTT := Lib.hid (fun k (hk : k < b) => turn_to m b k (by omega) hk)
  have r1 := Int.tmod_lt_of_pos m (show (0 : Int) < b by omega)
  have r2 := tmod_gt m b (by omega)
  obtain ⟨r, hr⟩ : ∃ r, m.tmod b = r := ⟨_, rfl⟩
  rw [hr] at r1 r2 HTT
  generalize sN m b = s at *
  have hbz : ((b : Int) == 0) = false := by simp; omega
  go_enter Try.func37, Try.ntmps37
  go_wp2_with (go_at_call 36; refine (HWD.out _).mono ?_; rintro e w1 ⟨rfl, hb1⟩)
  refine (split_int n b hwd2 (by omega) _).mono ?_
  rintro e w2 ⟨g, off, cap, rfl, hg, hc, hb2⟩
  have HC := Lib.hid hc
  clear hc
  go_wp2_with (at_make; refine wpList_make_full _ rfl _ _ 52 rfl w2.heap.size 4 i0 (.bool false) 1 Try.underlying52 hi hz0 hz1 .i64 .i64 _ _ b rfl rfl rfl rfl ?c1 ?c2 ?c3 ?_)
  case c1 => rw [hz2]; omega
  case c2 => unfold maxLen; omega
  case c3 => exact Nat.le_refl _
  intro w3 hown hgrow
  rw [rowB_made] at hown
  have hb3 : Below w2.heap.size w2 w3 := (Below.refl _ _).grown hgrow (Nat.le_refl _) (fun k hk => by cases hk)
  clear hgrow
  go_wp2
  go_loopw [11] (fun i wr => ∃ k : Nat, k ≤ b ∧ i = .int .i64 k ∧ wr.ownsRow w2.heap.size 4 1 (.slice (some ⟨w2.heap.size, 0, none⟩) b b) b (rowB (fun q => decide (turnI b s q < k) && turnF (U n) b s q) b) ∧ Below w2.heap.size w2 wr)
    (fun i _ => b - (intOf i).toNat)
  case atStart => exact ⟨0, Nat.zero_le _, rfl, by simpa using hown, hb3⟩
  case round =>
    clear hown hb3
    obtain ⟨k, hk, rfl, hown, hnx⟩ := hrel
    by_cases hlt : k < b
    · have hp : (k + s) % b < b := Nat.mod_lt _ (by omega)
      have hpp := turn_there b s k hs hlt
      have e3 := HTT.out k hlt
      generalize (k + s) % b = p at *
      have hck : wr.cell? ⟨g, off + k, none⟩ = some (.bool ((U n).testBit k)) := (hnx.cell (by exact hg)).trans (HC.out _ (by omega))
      have hco := hown.cellAt p (by omega)
      rw [rowB_get _ _ _ hp] at hco
      have hcf := hown.frozenAt p
      obtain ⟨hst, hgr⟩ := hown.stored p (.bool ((U n).testBit k))
      rw [rowB_set _ (fun q => decide (turnI b s q < k + 1) && turnF (U n) b s q) b p _ (by simp [turnF, hpp]) (by
        intro q hq hne
        have : turnI b s q ≠ k := fun h => hne (by
          have h1 := turn_back b s q hs hq
          have h2 := turn_back b s p hs hp
          rw [h] at h1; rw [hpp] at h2; omega)
        congr 1; simp; omega)] at hst
      have HST := Lib.hid hst
      have hb4 := hnx.setCell (p := ⟨w2.heap.size, p, none⟩) (Nat.le_refl _) (.bool ((U n).testBit k))
      generalize (U n).testBit k = d at *
      generalize (decide (turnI b s p < k) && turnF (U n) b s p) = d2 at *
      have e1 : IntKind.i64.wrap ((k : Int) + r) = k + r := IntWalk.i64_in _ (by omega)
      have e2 : IntKind.i64.wrap ((k : Int) + r + b) = k + r + b := IntWalk.i64_in _ (by omega)
      clear hst hgr hown hpp r1 r2
      go_wp2
      go_region
      go_wp2
      go_roundw
      case rel => exact ⟨k + 1, by omega, by go_num, HST.out.drew, hb4.drew⟩
      case measure => simp [intOf]; omega
    · have : k = b := by omega
      subst this
      have e1 : rowB (fun q => decide (turnI k s q < k) && turnF (U n) k s q) k = rowB (turnF (U n) k s) k := rowB_congr _ _ _ (by
        intro q hq
        have : turnI k s q < k := Nat.mod_lt _ (by omega)
        simp [this])
      rw [e1] at hown
      have HT := Lib.hid (told_any kind _ _ k wr _ (by omega) hwd2 hown)
      clear hown e1
      go_wp2_with (go_at_call 39; refine (HT.out).mono ?_; rintro e w' ⟨rfl, hb4⟩)
      go_ret2
      exact ⟨rfl, ((hb1.trans (hb2.mono hb1.size)).trans (hnx.mono (Nat.le_trans hb1.size hb2.size))).trans (hb4.mono (Nat.le_trans (Nat.le_trans hb1.size hb2.size) hnx.size))⟩
set_option maxHeartbeats 800000 in
theorem docTurn_no (kind n m : Int) (hk : kind < 0 ∨ 7 < kind) (w : World) :
    Calls Try.prog 37 #[.int .i64 kind, .int .i64 n, .int .i64 m] w fun e w' => e = .returned (.tuple #[.int .i64 0, .int .i64 1]) ∧ Below w.heap.size w w' := by
  have HW := Lib.hid (width_no kind hk)
  clear hk
  go_enter Try.func37, Try.ntmps37
  go_wp2_with (go_at_call 36; refine (HW.out _).mono ?_; rintro e w' ⟨rfl, rfl⟩)
  go_ret2
  exact ⟨rfl, Below.refl _ _⟩

/-- Turn. -/
def DT (k n m r e : Int) : Prop := ∀ w, Calls Try.prog 37 #[.int .i64 k, .int .i64 n, .int .i64 m] w fun en w' => en = .returned (.tuple #[.int .i64 r, .int .i64 e]) ∧ Below w.heap.size w w'
def CT (k n m r e : Int) : Prop := ∀ w, Calls Try.prog 29 #[.int .i64 k, .int .i64 n, .int .i64 m] w fun en w' => en = .returned (.tuple #[.int .i64 r, .int .i64 e]) ∧ w = w'
theorem DT.use {k n m r e : Int} (h : DT k n m r e) (w : World) : Calls Try.prog 37 #[.int .i64 k, .int .i64 n, .int .i64 m] w fun en w' => en = .returned (.tuple #[.int .i64 r, .int .i64 e]) ∧ Below w.heap.size w w' := h w
theorem CT.use {k n m r e : Int} (h : CT k n m r e) (w : World) : Calls Try.prog 29 #[.int .i64 k, .int .i64 n, .int .i64 m] w fun en w' => en = .returned (.tuple #[.int .i64 r, .int .i64 e]) ∧ w = w' := h w
theorem dt (k n m : Int) (h0 : 0 ≤ k) (h7 : k ≤ 7) : DT k n m (turnK k n m) 0 := fun w => by rw [← law_turn]; exact docTurn_ok k n m h0 h7 w
theorem ct (k n m : Int) (h0 : 0 ≤ k) (h7 : k ≤ 7) : CT k n m (turnK k n m) 0 := fun w => turn_ok k n m h0 h7 w

theorem turnK_wrap (k n m : Int) : wrapK k (turnK k n m) = turnK k n m := wrapK_wrapK _ _
theorem turnK_bit (k n m : Int) (i : Nat) (hi : i < wd k) : (U (turnK k n m)).testBit i = turnF (U n) (wd k) (sN m (wd k)) i := by
  rw [← law_turn]
  have hl : wholeN (listB (turnF (U n) (wd k) (sN m (wd k))) (wd k)) < 2 ^ wd k := by
    have := wholeN_lt (listB (turnF (U n) (wd k) (sN m (wd k))) (wd k))
    simpa [listB] using this
  have h := congrArg (fun x => x.testBit i) (U_tell k _ _ (wd_pos k) (wd_bd k).2 hl)
  simpa [Nat.testBit_mod_two_pow, hi, listB_testBit] using h
theorem turnI_eq (b s q : Nat) (hs : s < b) (hq : q < b) : turnI b s q = if s ≤ q then q - s else q + b - s := by
  unfold turnI
  by_cases h : s ≤ q
  · rw [if_pos h, show q + b - s = (q - s) + b by omega, Nat.add_mod_right, Nat.mod_eq_of_lt (by omega)]
  · rw [if_neg h, Nat.mod_eq_of_lt (by omega)]
theorem sN_add (m1 m2 : Int) (b : Nat) (hb : 1 ≤ b) : sN (m1 + m2) b = if sN m1 b + sN m2 b < b then sN m1 b + sN m2 b else sN m1 b + sN m2 b - b := by
  have h1 := sN_lt m1 b hb
  have h2 := sN_lt m2 b hb
  have e : ((sN (m1 + m2) b : Nat) : Int) = (((sN m1 b + sN m2 b) % b : Nat) : Int) := by
    rw [sN_cast _ _ hb, Int.natCast_emod, Int.natCast_add, sN_cast _ _ hb, sN_cast _ _ hb, ← Int.add_emod]
  have e2 : sN (m1 + m2) b = (sN m1 b + sN m2 b) % b := by omega
  rw [e2]
  split
  · rename_i h; exact Nat.mod_eq_of_lt h
  · rename_i h
    have e3 : sN m1 b + sN m2 b = (sN m1 b + sN m2 b - b) + b := by omega
    have hx : sN m1 b + sN m2 b - b < b := by omega
    generalize sN m1 b + sN m2 b = x at *
    rw [show x % b = (x - b + b) % b by rw [← e3], Nat.add_mod_right, Nat.mod_eq_of_lt hx]
theorem turn_turn (k n m1 m2 : Int) : turnK k (turnK k n m1) m2 = turnK k n (m1 + m2) := by
  refine inK_congr k _ _ (turnK_wrap _ _ _) (turnK_wrap _ _ _) fun i hi => ?_
  have hb := wd_pos k
  have h1 := sN_lt m1 (wd k) hb
  have h2 := sN_lt m2 (wd k) hb
  rw [turnK_bit _ _ _ _ hi, turnK_bit _ _ _ _ hi]
  unfold turnF
  have hq : turnI (wd k) (sN m2 (wd k)) i < wd k := Nat.mod_lt _ hb
  rw [turnK_bit _ _ _ _ hq]
  unfold turnF
  congr 1
  have h3 := sN_lt (m1 + m2) (wd k) hb
  rw [turnI_eq _ _ _ h1 hq, turnI_eq _ _ _ h3 hi, turnI_eq _ _ _ h2 hi, sN_add _ _ _ hb]
  generalize sN m1 (wd k) = s1 at *
  generalize sN m2 (wd k) = s2 at *
  generalize wd k = b at *
  clear hq h3
  split <;> split <;> split <;> split <;> omega
theorem turn_zero (k n m : Int) (h : m % (wd k : Int) = 0) : turnK k n m = wrapK k n := by
  refine inK_congr k _ _ (turnK_wrap _ _ _) (wrapK_wrapK _ _) fun i hi => ?_
  have hb := wd_pos k
  have h0 : sN m (wd k) = 0 := by unfold sN; rw [h]; rfl
  rw [turnK_bit _ _ _ _ hi, wrapK_bit _ _ _ hi, h0]
  unfold turnF
  rw [turnI_eq _ _ _ hb hi, if_pos (Nat.zero_le _), Nat.sub_zero]
theorem wd_64 (k : Int) : ∃ c : Nat, 64 = wd k * c := by
  unfold wd
  split
  · exact ⟨8, rfl⟩
  · split
    · exact ⟨4, rfl⟩
    · split
      · exact ⟨2, rfl⟩
      · exact ⟨1, rfl⟩
theorem turn_back_law (k n m : Int) : turnK k (turnK k n m) (-(m.tmod 64)) = wrapK k n := by
  rw [turn_turn]
  apply turn_zero
  obtain ⟨c, hc⟩ := wd_64 k
  have hq := Int.mul_tdiv_add_tmod m 64
  have e : m + -(m.tmod 64) = (wd k : Int) * ((c : Int) * m.tdiv 64) := by
    have : (64 : Int) = (wd k : Int) * c := by rw [← Int.natCast_mul, ← hc]; rfl
    rw [← Int.mul_assoc, ← this]; omega
  rw [e, Int.mul_emod_right]
theorem rounds_calls (k n m : Int) (h0 : 0 ≤ k) (h7 : k ≤ 7) (hn : Fits n) : ∃ B W X Y : Int,
    DT k n m B 0 ∧ CT k n m B 0 ∧ CW k n W ∧ CT k B (-(m.tmod 64)) W 0 ∧ CT k n (m.tmod 1000) X 0 ∧ CT k X 13 Y 0 ∧ CT k n (m.tmod 1000 + 13) Y 0 := by
  refine ⟨turnK k n m, wrapK k n, turnK k n (m.tmod 1000), turnK k n (m.tmod 1000 + 13), dt k n m h0 h7, ct k n m h0 h7, cw k n h0 h7 hn, ?_, ct _ _ _ h0 h7, ?_, ct _ _ _ h0 h7⟩
  · rw [← turn_back_law k n m]; exact ct _ _ _ h0 h7
  · rw [← turn_turn]; exact ct _ _ _ h0 h7
end Go.Proofs.Ytdoaepopkdeonaa
