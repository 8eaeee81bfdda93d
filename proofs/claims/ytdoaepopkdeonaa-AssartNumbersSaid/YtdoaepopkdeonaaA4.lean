/-
  Conv: contract of Told.
-/
import Derived.Test.YtdoaepopkdeonaaA3
namespace Go.Proofs.Ytdoaepopkdeonaa
set_option linter.unusedVariables false
set_option linter.unusedSimpArgs false
open Go.RowKit

theorem whole_not (l : List Bool) : wholeN (l.map not) + wholeN l + 1 = 2 ^ l.length := by
  induction l with
  | nil => simp [wholeN]
  | cons b l ih => simp only [wholeN, List.map_cons, List.length_cons, Nat.pow_succ]; cases b <;> simp <;> omega

theorem top_bit (l : List Bool) (h : 0 < l.length) : (l.getD (l.length - 1) false = true) ↔ 2 ^ (l.length - 1) ≤ wholeN l := by
  rw [← wholeN_testBit]
  have h1 := wholeN_lt l
  obtain ⟨m, hm⟩ : ∃ m, l.length = m + 1 := ⟨l.length - 1, by omega⟩
  rw [hm] at h1 ⊢
  simp only [Nat.add_sub_cancel]
  rw [Nat.testBit_eq_decide_div_mod_eq, decide_eq_true_iff]
  have hp : 0 < 2 ^ m := Nat.two_pow_pos m
  have h2 : wholeN l / 2 ^ m < 2 := by rw [Nat.div_lt_iff_lt_mul hp]; rw [Nat.pow_succ] at h1; omega
  have h3 : 1 ≤ wholeN l / 2 ^ m ↔ 2 ^ m ≤ wholeN l := by rw [Nat.le_div_iff_mul_le hp]; omega
  rw [← h3]
  generalize wholeN l / 2 ^ m = q at *
  omega

/-- The number of a kind (signed: below 4) of b bits, whose bits are N's. -/
def tellK (kind : Int) (b : Nat) (N : Nat) : Int := if kind < 4 ∧ 2 ^ (b - 1) ≤ N then (N : Int) - 2 ^ b else wrap64 N

theorem Reads.mono {w w' : World} {v : Value} {bs : List Bool} {B : Nat} (h : Reads w v bs) (hb : Below B w w') (hB : ∀ k, v.ownBlock = some k → k < B) : Reads w' v bs := by
  obtain ⟨g, off, cap, rfl, hg, hc⟩ := h
  exact ⟨g, off, cap, rfl, Nat.lt_of_lt_of_le hg hb.size, fun j hj => (hb.cell (by exact hB g rfl)).trans (hc j hj)⟩

theorem Bools.reads {B : Nat} {w : World} {v : Value} {bs : List Bool} (h : Bools B w v bs) (hne : 0 < bs.length) : Reads w v bs := by
  have h' := h
  obtain ⟨h1, h2⟩ := h
  rcases h2 with ⟨rfl, h0⟩ | ⟨g, cap, cur, rfl, hB, hh, hle, hm, hs, ht⟩
  · omega
  · refine ⟨g, 0, cap, rfl, (Array.getElem?_eq_some_iff.1 hh).1, fun j hj => ?_⟩
    have := h'.cellAt j (by omega)
    rw [Nat.zero_add, this]
    simp [hj]

theorem take_snoc (bs : List Bool) (k : Nat) (hk : k < bs.length) : (bs.take (k + 1)).map not = (bs.take k).map not ++ [!(bs.getD k false)] := by
  rw [List.take_succ_eq_append_getElem hk]
  simp only [List.map_append, List.map_cons, List.map_nil]
  simp [hk]

set_option maxHeartbeats 800000 in
theorem told_pos (kind : Int) (v : Value) (bs : List Bool) (w : World) (h0 : 0 < bs.length) (hl : bs.length ≤ 64) (hr : Reads w v bs)
    (hk : ¬ (kind < 4 ∧ 2 ^ (bs.length - 1) ≤ wholeN bs)) :
    Calls Try.prog 39 #[.int .i64 kind, v] w fun e w' => e = .returned (.int .i64 (tellK kind bs.length (wholeN bs))) ∧ w = w' := by
  have hw := whole_any v bs w hl hr
  have HW := Lib.hid hw
  have HT : Hid (tellK kind bs.length (wholeN bs) = wrap64 (wholeN bs)) := Lib.hid (if_neg hk)
  clear hw
  by_cases h4 : kind < 4
  · have hd : bs.getD (bs.length - 1) false = false := by
      have := top_bit bs h0
      cases h : bs.getD (bs.length - 1) false
      · rfl
      · exact absurd ⟨h4, this.1 h⟩ hk
    obtain ⟨g, off, cap, rfl, hg, hc⟩ := hr
    have hcell := hc (bs.length - 1) (by omega)
    rw [hd] at hcell
    rw [HT.out]
    clear HT
    obtain ⟨m, hm⟩ : ∃ m, bs.length = m + 1 := ⟨bs.length - 1, by omega⟩
    rw [hm] at hcell h0 hl ⊢
    rw [hm] at HW
    simp only [Nat.add_sub_cancel] at hcell
    have e1 : (((m + 1 : Nat) : Int) - 1) = m := by omega
    clear hc hk hd hm
    generalize wholeN bs = N at *
    go_enter Try.func39, Try.ntmps39
    go_wp2_with (go_at_call 41; refine (HW.out).mono ?_; rintro e w' ⟨rfl, rfl⟩)
    go_ret
    exact ⟨rfl, rfl⟩
  · obtain ⟨g, off, cap, rfl, hg, hc⟩ := hr
    have h4' : decide (kind < 4) = false := by simpa using h4
    rw [HT.out]
    clear hc hk HT
    generalize bs.length = m at *
    generalize wholeN bs = N at *
    go_enter Try.func39, Try.ntmps39
    go_wp2_with (go_at_call 41; refine (HW.out).mono ?_; rintro e w' ⟨rfl, rfl⟩)
    go_ret
    exact ⟨rfl, rfl⟩

set_option maxHeartbeats 800000 in
theorem told_neg (kind : Int) (v : Value) (bs : List Bool) (w : World) (h0 : 0 < bs.length) (hl : bs.length ≤ 64) (hr : Reads w v bs)
    (h4 : kind < 4) (hk : 2 ^ (bs.length - 1) ≤ wholeN bs) :
    Calls Try.prog 39 #[.int .i64 kind, v] w fun e w' => e = .returned (.int .i64 (tellK kind bs.length (wholeN bs))) ∧ Below w.heap.size w w' := by
  obtain ⟨i0, hi, hz0, hz1, hz2⟩ := info_parts Try.info4
  have HT : Hid (tellK kind bs.length (wholeN bs) = (wholeN bs : Int) - 2 ^ bs.length) := Lib.hid (if_pos ⟨h4, hk⟩)
  have hd : bs.getD (bs.length - 1) false = true := (top_bit bs h0).2 hk
  have hn := whole_not bs
  have HN : Hid (-((wholeN (bs.map not) : Nat) : Int) - 1 = (wholeN bs : Int) - 2 ^ bs.length) := Lib.hid (by
    have : ((2 ^ bs.length : Nat) : Int) = 2 ^ bs.length := by simp
    rw [← this]; omega)
  have hNb : wholeN (bs.map not) ≤ 9223372036854775807 := by
    have hp : 2 ^ bs.length = 2 * 2 ^ (bs.length - 1) := by rw [← Nat.pow_succ']; congr 1; omega
    have hp2 : 2 ^ (bs.length - 1) ≤ 2 ^ 63 := Nat.pow_le_pow_right (by decide) (by omega)
    omega
  rw [HT.out, ← HN.out]
  clear HT HN hk hn
  have hr0 := Lib.hid hr
  obtain ⟨g, off, cap, rfl, hg, hc⟩ := hr
  have hcell := hc (bs.length - 1) (by omega)
  rw [hd] at hcell
  clear hd
  obtain ⟨len, hlen⟩ : ∃ m, bs.length = m := ⟨bs.length, rfl⟩
  have HLn := Lib.hid hlen
  rw [hlen] at hcell h0 hl hc ⊢
  obtain ⟨m, rfl⟩ : ∃ m, len = m + 1 := ⟨len - 1, by omega⟩
  simp only [Nat.add_sub_cancel] at hcell
  have e1 : (((m + 1 : Nat) : Int) - 1) = m := by omega
  clear hlen
  generalize hN : wholeN (bs.map not) = N at *
  have HNN := Lib.hid hN
  clear hN
  have HC := Lib.hid hc
  clear hc
  go_enter Try.func39, Try.ntmps39
  go_wp2
  go_loopw [5, 6] (fun v i wr => ∃ k : Nat, k ≤ m + 1 ∧ i = .int .i64 k ∧ wr.ownsRow w.heap.size 4 1 v k (((bs.take k).map not).map Value.bool) ∧ Below w.heap.size w wr)
    (fun _ i _ => m + 1 - (intOf i).toNat)
  case atStart => exact ⟨0, Nat.zero_le _, rfl, by simpa using World.ownsRow_nil _ _ _ _, Below.refl _ _⟩
  case round =>
    obtain ⟨k, hk, rfl, hown, hnx⟩ := hrel
    by_cases hlt : k < m + 1
    · have hck : wr.cell? ⟨g, off + k, none⟩ = some (.bool (bs.getD k false)) := (hnx.cell (by exact hg)).trans (HC.out k hlt)
      have hts := take_snoc bs k (by rw [HLn.out]; exact hlt)
      generalize bs.getD k false = d at *
      have HS := Lib.hid hts
      clear hts hcell e1
      go_wp2_with (first
        | (at_builtin; refine wpList_append_own _ rfl _ _ 52 rfl w.heap.size 4 i0 (.bool false) 1 1 Try.underlying52 hi hz0 hz1 hz2 rfl (by decide) _ _ _ rfl (hown.alloc _) ⟨wr.heap.size, 0, none⟩ 1 1 [.bool (!d)] rfl rfl ?c1 ?c2 ?c3 ?c4 ?c5 ?_))
      case c1 =>
        intro j u hj
        match j, hj with
        | 0, hj => simp at hj; subst hj; simp [Addr.add]
      case c2 => intro u hu; simp at hu; subst hu; rfl
      case c3 => unfold maxLen; omega
      case c4 => omega
      case c5 => have := hnx.size; simp; omega
      · intro v' w1 hown' hgrow _
        have hB2 : Below w.heap.size w w1 := (hnx.alloc hnx.size _).grown hgrow (by have := hnx.size; simp; omega) (fun k hk => (hown.lt k hk).1)
        have HO := Lib.hid hown'
        clear hown' hgrow hown hnx
        go_wp2
        go_roundw
        case rel => exact ⟨k + 1, by omega, by go_num, by rw [HS.out]; simpa using HO.out, hB2⟩
        case measure => simp [intOf]; omega
    · have : k = m + 1 := by omega
      subst this
      have hB : Bools w.heap.size wr u5 (bs.map not) := by
        unfold Bools
        rw [List.take_of_length_le (by rw [HLn.out]; exact Nat.le_refl _)] at hown
        rw [List.length_map, HLn.out]; exact hown
      have hw := whole_any u5 (bs.map not) wr (by rw [List.length_map, HLn.out]; exact hl) (hB.reads (by rw [List.length_map, HLn.out]; omega))
      rw [HNN.out] at hw
      have HW := Lib.hid hw
      clear hw hB hown hcell e1
      go_wp2_with (go_at_call 41; refine (HW.out).mono ?_; rintro e w' ⟨rfl, rfl⟩)
      go_ret
      exact ⟨rfl, hnx⟩
end Go.Proofs.Ytdoaepopkdeonaa
