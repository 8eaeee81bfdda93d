/-
  Conv: contracts of DocLeft, DocRight.
-/
import Derived.Test.YtdoaepopkdeonaaA4
namespace Go.Proofs.Ytdoaepopkdeonaa
set_option linter.unusedVariables false
set_option linter.unusedSimpArgs false
open Go.RowKit

def wd (kind : Int) : Nat := if kind % 4 = 0 then 8 else if kind % 4 = 1 then 16 else if kind % 4 = 2 then 32 else 64
theorem wd_bd (kind : Int) : 8 ≤ wd kind ∧ wd kind ≤ 64 := by unfold wd; split <;> (try split) <;> (try split) <;> omega

theorem width_ok (kind : Int) (h0 : 0 ≤ kind) (h7 : kind ≤ 7) (w : World) :
    Calls Try.prog 36 #[.int .i64 kind] w fun e w' => e = .returned (.int .i64 (wd kind : Nat)) ∧ Below w.heap.size w w' := by
  refine (width_yes kind h0 h7 w).mono fun e w' ⟨he, hw⟩ => ?_
  subst hw
  refine ⟨?_, (Below.refl _ _).alloc (Nat.le_refl _) _⟩
  rw [he]
  have hc : kind = 0 ∨ kind = 1 ∨ kind = 2 ∨ kind = 3 ∨ kind = 4 ∨ kind = 5 ∨ kind = 6 ∨ kind = 7 := by omega
  rcases hc with rfl | rfl | rfl | rfl | rfl | rfl | rfl | rfl <;> rfl


def U (n : Int) : Nat := (n % 18446744073709551616).toNat
theorem U_wrap (n : Int) : IntKind.u64.wrap n = (U n : Nat) := by
  rw [IntKind.wrap_u64]; unfold U; rw [Int.toNat_of_nonneg (Int.emod_nonneg _ (by decide))]
theorem U_le (n : Int) : U n ≤ 18446744073709551615 := by
  unfold U; have := Int.emod_lt_of_pos n (show (0 : Int) < 18446744073709551616 by decide); omega
theorem split_int (n : Int) (b : Nat) (hb : b ≤ 64) (h0 : 1 ≤ b) (w : World) :
    Calls Try.prog 38 #[.int .u64 (IntKind.u64.wrap n), .int .i64 b] w fun e w' => ∃ g off cap, e = .returned (.slice (some ⟨g, off, none⟩) b cap) ∧ g < w'.heap.size ∧
      (∀ j, j < b → w'.cell? ⟨g, off + j, none⟩ = some (.bool ((U n).testBit j))) ∧ Below w.heap.size w w' := by
  rw [U_wrap]
  refine (split_any (U n) b (U_le n) hb w).mono fun e w' ⟨v, he, hv, hw⟩ => ?_
  obtain ⟨g, off, cap, rfl, hg, hc⟩ := hv.reads (by rw [bitsOf_len]; omega)
  refine ⟨g, off, cap, by rw [he, bitsOf_len], hg, fun j hj => ?_, hw⟩
  rw [hc j (by rw [bitsOf_len]; exact hj)]
  simp [bitsOf, hj]

/-- b values, the bools of f. -/
def rowB (f : Nat → Bool) (b : Nat) : List Value := (List.range b).map fun p => Value.bool (f p)
theorem rowB_set (f g : Nat → Bool) (b p : Nat) (u : Bool) (hu : g p = u) (h : ∀ q, q < b → q ≠ p → g q = f q) : (rowB f b).set p (.bool u) = rowB g b := by
  apply List.ext_getElem
  · simp [rowB]
  · intro i h1 h2
    have hi : i < b := by simpa [rowB] using h2
    simp only [rowB, List.getElem_set, List.getElem_map, List.getElem_range]
    split
    · rename_i e; subst e; rw [hu]
    · rename_i e; rw [h i hi (fun h => e h.symm)]
theorem rowB_congr (f g : Nat → Bool) (b : Nat) (h : ∀ q, q < b → g q = f q) : rowB f b = rowB g b := by
  unfold rowB
  apply List.map_congr_left
  intro q hq
  rw [h q (by simpa using hq)]
theorem rowB_made (b : Nat) : (madeCells #[Value.bool false] b).toList = rowB (fun _ => false) b := by
  rw [toList_madeCells_one]
  unfold rowB
  apply List.ext_getElem <;> simp
theorem rowB_get (f : Nat → Bool) (b p : Nat) (h : p < b) : (rowB f b)[p]? = some (.bool (f p)) := by simp [rowB, h]
def listB (f : Nat → Bool) (b : Nat) : List Bool := (List.range b).map f
theorem rowB_bools {B : Nat} {w : World} {v : Value} {f : Nat → Bool} {b : Nat} (h : w.ownsRow B 4 1 v b (rowB f b)) : Bools B w v (listB f b) := by
  unfold Bools listB
  rw [List.length_map, List.length_range, List.map_map]
  exact h
theorem told_any (kind : Int) (v : Value) (f : Nat → Bool) (b : Nat) (w : World) (B : Nat) (h0 : 1 ≤ b) (hl : b ≤ 64) (hr : w.ownsRow B 4 1 v b (rowB f b)) :
    Calls Try.prog 39 #[.int .i64 kind, v] w fun e w' => e = .returned (.int .i64 (tellK kind b (wholeN (listB f b)))) ∧ Below w.heap.size w w' := by
  have hb := rowB_bools hr
  have hlen : (listB f b).length = b := by simp [listB]
  have hr := hb.reads (by rw [hlen]; exact h0)
  by_cases hk : kind < 4 ∧ 2 ^ ((listB f b).length - 1) ≤ wholeN (listB f b)
  · have := told_neg kind v (listB f b) w (by rw [hlen]; exact h0) (by rw [hlen]; exact hl) hr hk.1 hk.2
    rw [hlen] at this
    exact this
  · have := told_pos kind v (listB f b) w (by rw [hlen]; exact h0) (by rw [hlen]; exact hl) hr hk
    rw [hlen] at this
    exact this.mono fun e w' ⟨he, hw⟩ => ⟨he, hw ▸ Below.refl _ _⟩

def leftF (N m : Nat) (i : Nat) : Bool := decide (m ≤ i) && N.testBit (i - m)

set_option maxHeartbeats 800000 in
theorem docLeft_ok (kind n bw : Int) (h0 : 0 ≤ kind) (h7 : kind ≤ 7) (hby : 0 ≤ bw) (w : World) :
    Calls Try.prog 12 #[.int .i64 kind, .int .i64 n, .int .i64 bw] w fun e w' =>
      e = .returned (.tuple #[.int .i64 (tellK kind (wd kind) (wholeN (listB (leftF (U n) bw.toNat) (wd kind)))), .int .i64 0]) ∧ Below w.heap.size w w' := by
  obtain ⟨i0, hi, hz0, hz1, hz2⟩ := info_parts Try.info4
  obtain ⟨hwd1, hwd2⟩ := wd_bd kind
  have HWD := Lib.hid (width_ok kind h0 h7)
  generalize wd kind = b at *
  obtain ⟨m, rfl⟩ := Int.eq_ofNat_of_zero_le hby
  rw [Int.toNat_natCast]
  have hbz : ((b : Int) == 0) = false := by simp; omega
  have hbn : decide ((m : Int) < 0) = false := by simp
  go_enter Try.func12, Try.ntmps12
  go_wp2_with (go_at_call 36; refine (HWD.out _).mono ?_; rintro e w1 ⟨rfl, hb1⟩)
  refine (split_int n b hwd2 (by omega) _).mono ?_
  rintro e w2 ⟨g, off, cap, rfl, hg, hc, hb2⟩
  have HC := Lib.hid hc
  clear hc
  go_wp2_with (at_make; refine wpList_make_full _ rfl _ _ 52 rfl w2.heap.size 4 i0 (.bool false) 1 Try.underlying52 hi hz0 hz1 .i64 .i64 _ _ b rfl rfl rfl rfl ?c1 ?c2 ?c3 ?_)
  case c1 => rw [hz2]; omega
  case c2 => unfold maxLen; omega
  case c3 => exact Nat.le_refl _
  intro w3 hown hgrow
  rw [rowB_made] at hown
  have hb3 : Below w2.heap.size w2 w3 := (Below.refl _ _).grown hgrow (Nat.le_refl _) (fun k hk => by cases hk)
  clear hgrow
  go_wp2
  go_loopw [11] (fun i wr => ∃ k : Nat, k ≤ b ∧ i = .int .i64 k ∧ wr.ownsRow w2.heap.size 4 1 (.slice (some ⟨w2.heap.size, 0, none⟩) b b) b (rowB (fun p => decide (p < k) && leftF (U n) m p) b) ∧ Below w2.heap.size w2 wr)
    (fun i _ => b - (intOf i).toNat)
  case atStart => exact ⟨0, Nat.zero_le _, rfl, by simpa using hown, hb3⟩
  case round =>
    clear hown hb3
    obtain ⟨k, hk, rfl, hown, hnx⟩ := hrel
    by_cases hlt : k < b
    · by_cases hc : m ≤ k
      · have hck : wr.cell? ⟨g, off + (k - m), none⟩ = some (.bool ((U n).testBit (k - m))) := (hnx.cell (by exact hg)).trans (HC.out _ (by omega))
        have hco := hown.cellAt k (by omega)
        rw [rowB_get _ _ _ hlt] at hco
        have hcf := hown.frozenAt k
        obtain ⟨hst, hgr⟩ := hown.stored k (.bool ((U n).testBit (k - m)))
        rw [rowB_set _ (fun p => decide (p < k + 1) && leftF (U n) m p) b k _ (by simp [leftF, hc]) (by intro q _ hq; congr 1; simp; omega)] at hst
        have HST := Lib.hid hst
        generalize (U n).testBit (k - m) = d at *
        have hb4 := hnx.setCell (p := ⟨w2.heap.size, k, none⟩) (Nat.le_refl _) (.bool d)
        clear hst hgr hown
        go_wp2
        go_roundw
        case rel => exact ⟨k + 1, by omega, by go_num, HST.out, hb4⟩
        case measure => simp [intOf]; omega
      · have e1 : rowB (fun p => decide (p < k) && leftF (U n) m p) b = rowB (fun p => decide (p < k + 1) && leftF (U n) m p) b := rowB_congr _ _ _ (by
          intro q _
          by_cases hq : q = k
          · subst hq; simp [leftF]; omega
          · congr 1; simp; omega)
        rw [e1] at hown
        have HST := Lib.hid hown
        clear hown e1
        have hck : decide ((m : Int) ≤ (k : Int)) = false := by simp; omega
        by_cases hmb : m < b
        all_goals
          go_wp2
          go_roundw
          case rel => exact ⟨k + 1, by omega, by go_num, HST.out, hnx⟩
          case measure => simp [intOf]; omega
    · have : k = b := by omega
      subst this
      have e1 : rowB (fun p => decide (p < k) && leftF (U n) m p) k = rowB (leftF (U n) m) k := rowB_congr _ _ _ (by intro q hq; simp [hq])
      rw [e1] at hown
      have HT := Lib.hid (told_any kind _ _ k wr _ (by omega) hwd2 hown)
      clear hown e1
      go_wp2_with (go_at_call 39; refine (HT.out).mono ?_; rintro e w' ⟨rfl, hb4⟩)
      go_ret2
      exact ⟨rfl, ((hb1.trans (hb2.mono hb1.size)).trans (hnx.mono (Nat.le_trans hb1.size hb2.size))).trans (hb4.mono (Nat.le_trans (Nat.le_trans hb1.size hb2.size) hnx.size))⟩
end Go.Proofs.Ytdoaepopkdeonaa
