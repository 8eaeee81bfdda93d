/-
  Merge: contracts of sorted, of the document's Sorted.
-/
import Derived.Test.YtcgkpgjjifggcaaN10
namespace Go.Proofs.Ytcgkpgjjifggcaa
set_option linter.unusedVariables false
set_option linter.unusedSimpArgs false
open Go.RowKit Sl
attribute [local go_sem] Qu.plus_cell Qu.plus_frozen

theorem srt_adj {C V : Type} [DecidableEq V] (ver : C → V) (lt : V → V → Bool) (o : Pl.Ord lt) (l : List C) (h : ∀ t c d, l[t]? = some c → l[t + 1]? = some d → lt (ver c) (ver d) = true) : Pl.Srt ver lt l := by
  refine List.pairwise_iff_getElem.2 (fun i j hi hj hij => ?_)
  obtain ⟨d, rfl⟩ : ∃ d, j = i + 1 + d := ⟨j - i - 1, by omega⟩
  induction d with
  | zero => exact h i _ _ (by simp) (by simp)
  | succ d ih => exact o.trans _ _ _ (ih (by omega) (by omega)) (h (i + 1 + d) _ _ (by simp) (by simp [show i + 1 + (d + 1) = i + 1 + d + 1 from rfl]))
theorem adj_srt {C V : Type} [DecidableEq V] (ver : C → V) (lt : V → V → Bool) (l : List C) (h : Pl.Srt ver lt l) (t : Nat) (c d : C) (hc : l[t]? = some c) (hd : l[t + 1]? = some d) : lt (ver c) (ver d) = true := by
  obtain ⟨h1, rfl⟩ := List.getElem?_eq_some_iff.1 hc
  obtain ⟨h2, rfl⟩ := List.getElem?_eq_some_iff.1 hd
  exact List.pairwise_iff_getElem.1 h t (t + 1) h1 h2 (by omega)

theorem ret_bool {a b : Bool} (h : a = b) : Ending.returned (.bool a) = .returned (.bool b) := by rw [h]
set_option maxHeartbeats 1600000 in
theorem sorted_ok (v : Value) (l : List CellR) (S : Nat → Prop) (w : World) (h : CV w S v l) (b : Bool) (hb : b = true ↔ Pl.Srt CellR.ver verLt l) :
    Calls Try.prog 28 #[v] w fun e w' => e = .returned (.bool b) ∧ Below w.heap.size w w' := by
  obtain ⟨ao, cap, hv⟩ := h.shape
  obtain ⟨n, hn⟩ : ∃ n, l.length = n := ⟨_, rfl⟩
  rw [hn] at hv
  subst hv
  have HV := Lib.hid h
  have HB := Lib.hid hb
  have HN := Lib.hid hn
  obtain ⟨-, h2, h3⟩ := SlV.len h
  unfold maxLen at h3
  clear h hn hb
  go_enter Try.func28, Try.ntmps28
  go_wp2
  go_loopw [3] (fun i wr => ∃ k : Nat, i = .int .i64 ((k : Int) + 1) ∧ k ≤ n ∧ Hid (∀ t c d, t < k → l[t]? = some c → l[t + 1]? = some d → verLt c.ver d.ver = true) ∧ Hid (Below w.heap.size w wr))
    (fun i _ => n + 1 - (intOf i).toNat)
  case atStart => exact ⟨0, by simp, Nat.zero_le _, Lib.hid (fun t _ _ h _ _ => absurd h (Nat.not_lt_zero _)), Lib.hid (Below.refl _ _)⟩
  case round =>
    obtain ⟨k, rfl, hk, HL, HW⟩ := hrel
    by_cases hlt : k + 1 < n
    · have hlt2 : (k : Int) + 1 < n := by omega
      obtain ⟨bb, o, rfl, hS, hbl, hcs⟩ := CV.of (SlV.below HV.out HW.out) (by omega)
      obtain ⟨c, hc⟩ := get_of (l := l) (k := k) (by have := HN.out; omega)
      obtain ⟨d, hd⟩ := get_of (l := l) (k := k + 1) (by have := HN.out; omega)
      obtain ⟨x1, x2, x3, x4⟩ := hcs k c hc
      obtain ⟨y1, y2, y3, y4⟩ := hcs (k + 1) d hd
      obtain ⟨r, hr⟩ : ∃ r, verLt c.ver d.ver = r := ⟨_, rfl⟩
      have HIK : Hid (∀ w', Calls Try.prog 39 #[.agg #[.string c.ver.key, .int .i64 c.ver.seq, .int .i64 c.ver.kind], .agg #[.string d.ver.key, .int .i64 d.ver.seq, .int .i64 d.ver.kind]] w' fun e w'' => e = .returned (.bool r) ∧ Below w'.heap.size w' w'') :=
        Lib.hid (fun w' => hr ▸ ikeyLess_ok c.ver d.ver w')
      have HR := Lib.hid hr
      have HC := Lib.hid hc
      have HD := Lib.hid hd
      have e1 : IntKind.i64.wrap ((k : Int) + 1 - 1) = k := by rw [Int.add_sub_cancel]; exact IntWalk.i64_in _ (by omega)
      have a1 : (0 : Int) ≤ (k : Int) := by omega
      have a2 : (k : Int) < n := by omega
      have a3 : ((k : Int) + 1).toNat = k + 1 := by omega
      have a4 : (0 : Int) ≤ (k : Int) + 1 := by omega
      clear hcs hr hc hd hS
      cases r with
      | true =>
        go_wp2_with fail
        refine Qu.wp_region_plus (by kernel_rfl) (by kernel_rfl) ?_
        repeat (go_big_quiet_step ((refine Qu.plus_call (HIK.out _))))
        refine wpQuiet_nil ?_
        rintro _ ⟨X, rfl⟩
        have HX := Lib.hid (Qu.plus_below wr X)
        go_wp2
        go_roundw
        case rel =>
          refine ⟨k + 1, by go_num, by omega, Lib.hid (fun t c' d' ht h1 h2 => ?_), Lib.hid (HW.out.trans (HX.out.mono HW.out.size))⟩
          by_cases htk : t = k
          · subst htk
            have e1 := HC.out.symm.trans h1
            have e2 := HD.out.symm.trans h2
            cases e1; cases e2
            exact HR.out
          · exact HL.out t c' d' (by omega) h1 h2
        case measure => simp [intOf]; omega
      | false =>
        go_wp2_with fail
        refine Qu.wp_region_plus (by kernel_rfl) (by kernel_rfl) ?_
        repeat (go_big_quiet_step ((refine Qu.plus_call (HIK.out _))))
        refine wpQuiet_nil ?_
        rintro _ ⟨X, rfl⟩
        have HX := Lib.hid (Qu.plus_below wr X)
        go_wp2
        go_ret
        refine ⟨ret_bool ?_, HW.out.trans (HX.out.mono HW.out.size)⟩
        cases b with
        | false => rfl
        | true =>
          have := adj_srt CellR.ver verLt l (HB.out.1 rfl) k c d HC.out HD.out
          rw [HR.out] at this; cases this
    · have hge : decide ((k : Int) + 1 < n) = false := by simp; omega
      go_wp2
      go_ret
      refine ⟨ret_bool ?_, HW.out⟩
      refine (HB.out.2 (srt_adj CellR.ver verLt verLt_ord l (fun t c d h1 h2 => HL.out t c d ?_ h1 h2))).symm
      have := (List.getElem?_eq_some_iff.1 h2).1
      have := HN.out
      omega
set_option maxHeartbeats 1600000 in
theorem docSorted_ok (v : Value) (l : List CellR) (S : Nat → Prop) (w : World) (h : CV w S v l) (b : Bool) (hb : b = true ↔ Pl.Srt CellR.ver verLt l) :
    Calls Try.prog 15 #[v] w fun e w' => e = .returned (.bool b) ∧ Below w.heap.size w w' := by
  obtain ⟨ao, cap, hv⟩ := h.shape
  obtain ⟨n, hn⟩ : ∃ n, l.length = n := ⟨_, rfl⟩
  rw [hn] at hv
  subst hv
  have HV := Lib.hid h
  have HB := Lib.hid hb
  have HN := Lib.hid hn
  obtain ⟨-, h2, h3⟩ := SlV.len h
  unfold maxLen at h3
  clear h hn hb
  go_enter Try.func15, Try.ntmps15
  go_wp2
  go_loopw [3] (fun i wr => ∃ k : Nat, i = .int .i64 ((k : Int) + 1) ∧ k ≤ n ∧ Hid (∀ t c d, t < k → l[t]? = some c → l[t + 1]? = some d → verLt c.ver d.ver = true) ∧ Hid (Below w.heap.size w wr))
    (fun i _ => n + 1 - (intOf i).toNat)
  case atStart => exact ⟨0, by simp, Nat.zero_le _, Lib.hid (fun t _ _ h _ _ => absurd h (Nat.not_lt_zero _)), Lib.hid (Below.refl _ _)⟩
  case round =>
    obtain ⟨k, rfl, hk, HL, HW⟩ := hrel
    by_cases hlt : k + 1 < n
    · have hlt2 : (k : Int) + 1 < n := by omega
      obtain ⟨bb, o, rfl, hS, hbl, hcs⟩ := CV.of (SlV.below HV.out HW.out) (by omega)
      obtain ⟨c, hc⟩ := get_of (l := l) (k := k) (by have := HN.out; omega)
      obtain ⟨d, hd⟩ := get_of (l := l) (k := k + 1) (by have := HN.out; omega)
      obtain ⟨x1, x2, x3, x4⟩ := hcs k c hc
      obtain ⟨y1, y2, y3, y4⟩ := hcs (k + 1) d hd
      obtain ⟨r, hr⟩ : ∃ r, verLt c.ver d.ver = r := ⟨_, rfl⟩
      have HIK : Hid (∀ w', Calls Try.prog 27 #[.agg #[.string c.ver.key, .int .i64 c.ver.seq, .int .i64 c.ver.kind], .agg #[.string d.ver.key, .int .i64 d.ver.seq, .int .i64 d.ver.kind]] w' fun e w'' => e = .returned (.bool r) ∧ Below w'.heap.size w' w'') :=
        Lib.hid (fun w' => hr ▸ docLess_ok c.ver d.ver w')
      have HR := Lib.hid hr
      have HC := Lib.hid hc
      have HD := Lib.hid hd
      have e1 : IntKind.i64.wrap ((k : Int) + 1 - 1) = k := by rw [Int.add_sub_cancel]; exact IntWalk.i64_in _ (by omega)
      have a1 : (0 : Int) ≤ (k : Int) := by omega
      have a2 : (k : Int) < n := by omega
      have a3 : ((k : Int) + 1).toNat = k + 1 := by omega
      have a4 : (0 : Int) ≤ (k : Int) + 1 := by omega
      clear hcs hr hc hd hS
      cases r with
      | true =>
        go_wp2_with fail
        refine Qu.wp_region_plus (by kernel_rfl) (by kernel_rfl) ?_
        repeat (go_big_quiet_step ((refine Qu.plus_call (HIK.out _))))
        refine wpQuiet_nil ?_
        rintro _ ⟨X, rfl⟩
        have HX := Lib.hid (Qu.plus_below wr X)
        go_wp2
        go_roundw
        case rel =>
          refine ⟨k + 1, by go_num, by omega, Lib.hid (fun t c' d' ht h1 h2 => ?_), Lib.hid (HW.out.trans (HX.out.mono HW.out.size))⟩
          by_cases htk : t = k
          · subst htk
            have e1 := HC.out.symm.trans h1
            have e2 := HD.out.symm.trans h2
            cases e1; cases e2
            exact HR.out
          · exact HL.out t c' d' (by omega) h1 h2
        case measure => simp [intOf]; omega
      | false =>
        go_wp2_with fail
        refine Qu.wp_region_plus (by kernel_rfl) (by kernel_rfl) ?_
        repeat (go_big_quiet_step ((refine Qu.plus_call (HIK.out _))))
        refine wpQuiet_nil ?_
        rintro _ ⟨X, rfl⟩
        have HX := Lib.hid (Qu.plus_below wr X)
        go_wp2
        go_ret
        refine ⟨ret_bool ?_, HW.out.trans (HX.out.mono HW.out.size)⟩
        cases b with
        | false => rfl
        | true =>
          have := adj_srt CellR.ver verLt l (HB.out.1 rfl) k c d HC.out HD.out
          rw [HR.out] at this; cases this
    · have hge : decide ((k : Int) + 1 < n) = false := by simp; omega
      go_wp2
      go_ret
      refine ⟨ret_bool ?_, HW.out⟩
      refine (HB.out.2 (srt_adj CellR.ver verLt verLt_ord l (fun t c d h1 h2 => HL.out t c d ?_ h1 h2))).symm
      have := (List.getElem?_eq_some_iff.1 h2).1
      have := HN.out
      omega
end Go.Proofs.Ytcgkpgjjifggcaa
