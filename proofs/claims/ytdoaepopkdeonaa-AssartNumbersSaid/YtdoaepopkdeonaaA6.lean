/-
  Conv: contract of DocRight; DocLeft, DocRight where there is no answer.
-/
import Derived.Test.YtdoaepopkdeonaaA5
namespace Go.Proofs.Ytdoaepopkdeonaa
set_option linter.unusedVariables false
set_option linter.unusedSimpArgs false
open Go.RowKit

def rightF (kind : Int) (N b m : Nat) (i : Nat) : Bool := if m < b ∧ i + m < b then N.testBit (i + m) else decide (kind < 4) && N.testBit (b - 1)

set_option maxHeartbeats 1600000 in
theorem docRight_ok (kind n bw : Int) (h0 : 0 ≤ kind) (h7 : kind ≤ 7) (hby : 0 ≤ bw) (w : World) :
    Calls Try.prog 14 #[.int .i64 kind, .int .i64 n, .int .i64 bw] w fun e w' =>
      e = .returned (.tuple #[.int .i64 (tellK kind (wd kind) (wholeN (listB (rightF kind (U n) (wd kind) bw.toNat) (wd kind)))), .int .i64 0]) ∧ Below w.heap.size w w' := by
  obtain ⟨i0, hi, hz0, hz1, hz2⟩ := info_parts Try.info4
  obtain ⟨hwd1, hwd2⟩ := wd_bd kind
  have HWD := Lib.hid (width_ok kind h0 h7)
  generalize wd kind = b at *
  obtain ⟨m, rfl⟩ := Int.eq_ofNat_of_zero_le hby
  rw [Int.toNat_natCast]
  have hbz : ((b : Int) == 0) = false := by simp; omega
  have hbn : decide ((m : Int) < 0) = false := by simp
  go_enter Try.func14, Try.ntmps14
  go_wp2_with (go_at_call 36; refine (HWD.out _).mono ?_; rintro e w1 ⟨rfl, hb1⟩)
  refine (split_int n b hwd2 (by omega) _).mono ?_
  rintro e w2 ⟨g, off, cap, rfl, hg, hc, hb2⟩
  have HC := Lib.hid hc
  clear hc
  go_wp2_with (at_make; refine wpList_make_full _ rfl _ _ 52 rfl w2.heap.size 4 i0 (.bool false) 1 Try.underlying52 hi hz0 hz1 .i64 .i64 _ _ b rfl rfl rfl rfl ?c1 ?c2 ?c3 ?_)
  case c1 => rw [hz2]; omega
  case c2 => unfold maxLen; omega
  case c3 => exact Nat.le_refl _
  intro w3 hown hgrow
  rw [rowB_made] at hown
  have hb3 : Below w2.heap.size w2 w3 := (Below.refl _ _).grown hgrow (Nat.le_refl _) (fun k hk => by cases hk)
  clear hgrow
  go_wp2
  go_loopw [11] (fun i wr => ∃ k : Nat, k ≤ b ∧ i = .int .i64 k ∧ wr.ownsRow w2.heap.size 4 1 (.slice (some ⟨w2.heap.size, 0, none⟩) b b) b (rowB (fun p => decide (p < k) && rightF kind (U n) b m p) b) ∧ Below w2.heap.size w2 wr)
    (fun i _ => b - (intOf i).toNat)
  case atStart => exact ⟨0, Nat.zero_le _, rfl, by simpa using hown, hb3⟩
  case round =>
    clear hown hb3
    obtain ⟨k, hk, rfl, hown, hnx⟩ := hrel
    by_cases hlt : k < b
    · have hco := hown.cellAt k (by omega)
      rw [rowB_get _ _ _ hlt] at hco
      have hcf := hown.frozenAt k
      have hcl : wr.cell? ⟨g, off + (b - 1), none⟩ = some (.bool ((U n).testBit (b - 1))) := (hnx.cell (by exact hg)).trans (HC.out _ (by omega))
      have e1 : ((b : Int) - 1).toNat = b - 1 := by omega
      by_cases hc : m < b ∧ k + m < b
      · obtain ⟨hc1, hc2⟩ := hc
        have hck : wr.cell? ⟨g, off + (k + m), none⟩ = some (.bool ((U n).testBit (k + m))) := (hnx.cell (by exact hg)).trans (HC.out _ (by omega))
        have hv : rightF kind (U n) b m k = (U n).testBit (k + m) := by simp [rightF, hc1, hc2]
        generalize (U n).testBit (b - 1) = d1 at *
        generalize hd : (U n).testBit (k + m) = d at *
        by_cases h4 : kind < 4
        · obtain ⟨hst1, hgr1⟩ := hown.stored k (.bool d1)
          obtain ⟨hst, hgr⟩ := hst1.stored k (.bool d)
          rw [List.set_set, rowB_set _ (fun p => decide (p < k + 1) && rightF kind (U n) b m p) b k _ (by simp [hv]) (by intro q _ hq; congr 1; simp; omega)] at hst
          have HST := Lib.hid hst
          have hb4 := (hnx.setCell (p := ⟨w2.heap.size, k, none⟩) (Nat.le_refl _) (.bool d1)).setCell (p := ⟨w2.heap.size, k, none⟩) (Nat.le_refl _) (.bool d)
          have HV := Lib.hid hv
          have HD := Lib.hid hd
          clear hst hgr hst1 hgr1 hown hv hd
          go_wp2
          go_roundw
          case rel => exact ⟨k + 1, by omega, by go_num, HST.out, hb4⟩
          case measure => simp [intOf]; omega
        · have h4' : decide (kind < 4) = false := by simpa using h4
          obtain ⟨hst1, hgr1⟩ := hown.stored k (.bool false)
          obtain ⟨hst, hgr⟩ := hst1.stored k (.bool d)
          rw [List.set_set, rowB_set _ (fun p => decide (p < k + 1) && rightF kind (U n) b m p) b k _ (by simp [hv]) (by intro q _ hq; congr 1; simp; omega)] at hst
          have HST := Lib.hid hst
          have hb4 := (hnx.setCell (p := ⟨w2.heap.size, k, none⟩) (Nat.le_refl _) (.bool false)).setCell (p := ⟨w2.heap.size, k, none⟩) (Nat.le_refl _) (.bool d)
          have HV := Lib.hid hv
          have HD := Lib.hid hd
          clear hst hgr hst1 hgr1 hown hv hd
          go_wp2
          go_roundw
          case rel => exact ⟨k + 1, by omega, by go_num, HST.out, hb4⟩
          case measure => simp [intOf]; omega
      · have hv : rightF kind (U n) b m k = (decide (kind < 4) && (U n).testBit (b - 1)) := by unfold rightF; rw [if_neg hc]
        generalize (U n).testBit (b - 1) = d1 at *
        by_cases h4 : kind < 4
        · obtain ⟨hst, hgr⟩ := hown.stored k (.bool d1)
          rw [rowB_set _ (fun p => decide (p < k + 1) && rightF kind (U n) b m p) b k _ (by simp [hv, h4]) (by intro q _ hq; congr 1; simp; omega)] at hst
          have HST := Lib.hid hst
          have hb4 := (hnx.setCell (p := ⟨w2.heap.size, k, none⟩) (Nat.le_refl _) (.bool d1))
          have HV := Lib.hid hv
          clear hst hgr hown hv
          by_cases hmb : m < b
          · have hkm : ¬ (k + m < b) := fun h => hc ⟨hmb, h⟩
            have hkm' : decide ((k : Int) + m < b) = false := by simp; omega
            clear hc
            go_wp2
            go_roundw
            case rel => exact ⟨k + 1, by omega, by go_num, HST.out, hb4⟩
            case measure => simp [intOf]; omega
          · clear hc
            have hkm' : decide ((m : Int) < b) = false := by simp; omega
            go_wp2
            go_roundw
            case rel => exact ⟨k + 1, by omega, by go_num, HST.out, hb4⟩
            case measure => simp [intOf]; omega
        · have h4' : decide (kind < 4) = false := by simpa using h4
          obtain ⟨hst, hgr⟩ := hown.stored k (.bool false)
          rw [rowB_set _ (fun p => decide (p < k + 1) && rightF kind (U n) b m p) b k _ (by simp [hv, h4]) (by intro q _ hq; congr 1; simp; omega)] at hst
          have HST := Lib.hid hst
          have hb4 := (hnx.setCell (p := ⟨w2.heap.size, k, none⟩) (Nat.le_refl _) (.bool false))
          have HV := Lib.hid hv
          clear hst hgr hown hv
          by_cases hmb : m < b
          · have hkm : ¬ (k + m < b) := fun h => hc ⟨hmb, h⟩
            have hkm' : decide ((k : Int) + m < b) = false := by simp; omega
            clear hc
            go_wp2
            go_roundw
            case rel => exact ⟨k + 1, by omega, by go_num, HST.out, hb4⟩
            case measure => simp [intOf]; omega
          · clear hc
            have hkm' : decide ((m : Int) < b) = false := by simp; omega
            go_wp2
            go_roundw
            case rel => exact ⟨k + 1, by omega, by go_num, HST.out, hb4⟩
            case measure => simp [intOf]; omega
    · have : k = b := by omega
      subst this
      have e1 : rowB (fun p => decide (p < k) && rightF kind (U n) k m p) k = rowB (rightF kind (U n) k m) k := rowB_congr _ _ _ (by intro q hq; simp [hq])
      rw [e1] at hown
      have HT := Lib.hid (told_any kind _ _ k wr _ (by omega) hwd2 hown)
      clear hown e1
      go_wp2_with (go_at_call 39; refine (HT.out).mono ?_; rintro e w' ⟨rfl, hb4⟩)
      go_ret2
      exact ⟨rfl, ((hb1.trans (hb2.mono hb1.size)).trans (hnx.mono (Nat.le_trans hb1.size hb2.size))).trans (hb4.mono (Nat.le_trans (Nat.le_trans hb1.size hb2.size) hnx.size))⟩
end Go.Proofs.Ytdoaepopkdeonaa
