/-
  'assart/assartlaw02.ConvWraps' returns true: for every input, no condition. (The frame of the row: written by the kit's proof-skeleton, turned to 'Below'; the walk: ours.)
-/
import Derived.Test.YtdoaepopkdeonaaRows
import Derived.WalkKit
import Derived.ProofKit
import Derived.OpenShut
import Derived.Test.YtdoaepopkdeonaaE1
namespace Go.Proofs.Ytdoaepopkdeonaa.convWraps
open Go.ChangeShapes Go.WideShapes Go.ChangeAt Go.RowKit
set_option linter.unusedVariables false
set_option linter.unusedSimpArgs false

theorem own : ownKnob Try.prog.godebug = none := by kernel_rfl

set_option maxRecDepth 100000 in
set_option maxHeartbeats 1600000 in
theorem walk (a0 : Int) (a1 : Int) (w0 : (Lit.int .i64 a0).wf = true) (w1 : (Lit.int .i64 a1).wf = true) (w : World) :
    Calls Try.prog 10 #[.int .i64 a0, .int .i64 a1] w fun e w' => e = .returned (.bool true) ∧ Below w.heap.size w w' := by
  have hn := fits_of_wf w1
  by_cases hk : a0 < 0 ∨ 7 < a0
  · have h1 : CP 33 a0 a1 0 1 := fun w => docWrap_no a0 a1 hk w
    have h2 : CP 34 a0 a1 0 1 := fun w => docClamp_no a0 a1 hk w
    have h3 : CP 35 a0 a1 0 1 := fun w => docSwap_no a0 a1 hk w
    have h4 : CP 27 a0 a1 0 1 := fun w => swap_no a0 a1 hk w
    have h5 := Lib.hid (wrap_no a0 a1 hk)
    have h6 := Lib.hid (clamp_no a0 a1 hk)
    have h7 := Lib.hid (bits_no a0 hk)
    have h8 := Lib.hid (width_no a0 hk)
    clear w0 w1 hn hk
    go_enter Try.func10, Try.ntmps10
    go_wp2_with (first
      | (go_at_call 16; refine (wraps_ok _).mono ?_; rintro e w' ⟨rfl, rfl⟩)
      | (go_at_call 33; refine (h1.use _).mono ?_; rintro e wa ⟨rfl, hba⟩)
      | (go_at_call 34; refine (h2.use _).mono ?_; rintro e wb ⟨rfl, hbb⟩)
      | (go_at_call 35; refine (h3.use _).mono ?_; rintro e wc ⟨rfl, hbc⟩)
      | (go_at_call 27; refine (h4.use _).mono ?_; rintro e wd ⟨rfl, hbd⟩)
      | (go_at_call 17; refine (h5.out _).mono ?_; rintro e w' ⟨rfl, rfl⟩)
      | (go_at_call 32; refine (h6.out _).mono ?_; rintro e w' ⟨rfl, rfl⟩)
      | (go_at_call 31; refine (h7.out _).mono ?_; rintro e w' ⟨rfl, rfl⟩)
      | (go_at_call 36; refine (h8.out _).mono ?_; rintro e w' ⟨rfl, rfl⟩))
    go_ret
    exact ⟨rfl, below_trans (below_trans (below_trans hba hbb) hbc) hbd⟩
  · have k0 : 0 ≤ a0 := by omega
    have k7 : a0 ≤ 7 := by omega
    have h1 : CP 33 a0 a1 (wrapK a0 a1) 0 := fun w => docWrap_ok a0 a1 k0 k7 w
    have h2 : CP 34 a0 a1 (clampK a0 a1) 0 := fun w => docClamp_ok a0 a1 k0 k7 hn w
    have h3 : CP 35 a0 a1 (swapK a0 a1) 0 := (swap_both a0 a1 k0 k7).1
    have h4 : CP 27 a0 a1 (swapK a0 a1) 0 := (swap_both a0 a1 k0 k7).2
    have h5 : CW a0 a1 (wrapK a0 a1) := cw a0 a1 k0 k7 hn
    have h6 : CC a0 a1 (clampK a0 a1) := fun w => clamp_ok a0 a1 k0 k7 hn w
    have h7 : CB a0 (wd a0 : Nat) (sgnB a0) := fun w => bits_ok a0 k0 k7 w
    have h8 := Lib.hid (width_ok a0 k0 k7)
    have hw := (wd_bd a0).1
    obtain ⟨S, hS⟩ : ∃ S, S = sgnB a0 := ⟨_, rfl⟩
    have hs : (S = true ∧ a0 < 4) ∨ (S = false ∧ decide (a0 < 4) = false) := by
      rw [hS]
      by_cases h4 : a0 < 4
      · exact .inl ⟨decide_eq_true h4, h4⟩
      · exact .inr ⟨decide_eq_false h4, decide_eq_false h4⟩
    rw [← hS] at h7
    clear hS
    generalize wrapK a0 a1 = A at *
    generalize clampK a0 a1 = C at *
    generalize swapK a0 a1 = X at *
    generalize wd a0 = V at *
    have hz : ((V : Int) == 0) = false := by simp; omega
    clear w0 w1 hn hk hw k0 k7
    rcases hs with ⟨rfl, hs⟩ | ⟨rfl, hs⟩
    all_goals
      go_enter Try.func10, Try.ntmps10
      go_wp2_with (first
        | (go_at_call 16; refine (wraps_ok _).mono ?_; rintro e w' ⟨rfl, rfl⟩)
        | (go_at_call 33; refine (h1.use _).mono ?_; rintro e wa ⟨rfl, hba⟩)
        | (go_at_call 34; refine (h2.use _).mono ?_; rintro e wb ⟨rfl, hbb⟩)
        | (go_at_call 35; refine (h3.use _).mono ?_; rintro e wc ⟨rfl, hbc⟩)
        | (go_at_call 27; refine (h4.use _).mono ?_; rintro e wd ⟨rfl, hbd⟩)
        | (go_at_call 17; refine (h5.use _).mono ?_; rintro e w' ⟨rfl, rfl⟩)
        | (go_at_call 32; refine (h6.use _).mono ?_; rintro e w' ⟨rfl, rfl⟩)
        | (go_at_call 31; refine (h7.use _).mono ?_; rintro e w' ⟨rfl, rfl⟩)
        | (go_at_call 36; refine (h8.out _).mono ?_; rintro e wx ⟨rfl, hbx⟩))
      go_ret
      exact ⟨rfl, below_trans (below_trans (below_trans (below_trans (below_trans hba hbb) hbc) hbd) (by assumption)) (by assumption)⟩

set_option maxRecDepth 100000 in
theorem lifted (os : Os) (started : os.Started) (H : Type) (enc : TypeId × Value → H) :
    ReturnsInHanded {} Try.checked os 10 .any (Rows.convWrapsSpec.pre6 enc Try.prog Try.f10 Rows.convWrapsRow.domain false) (Rows.convWrapsSpec.post enc Try.prog Try.f10 false true false false) := by
  refine returnsInHanded_of_change (C := Try.checked) own started (by kernel_rfl) Try.func10
    (ChangeSpec.witness6 (enc := enc) (C := Try.checked) false ⟨#[], #[.int .i64 0, .int .i64 0], []⟩ 8 (by kernel_rfl) (by kernel_rfl) (by kernel_rfl) (by kernel_rfl)) ?_
  intro W base args ds gs before hval0 hW hcnd _
  have hval : ∀ (j : Nat) t v, Try.f10.params[j]? = some t → args[j]? = some v → Value.okWide Try.prog W .any base t v := hval0
  have hW' := hW
  obtain ⟨p, q, hA0, hV, rfl, hfz, hnd⟩ := hW
  have hA : DataW.TrodAll enc Try.prog W 0 (fun _ => true) true Try.f10.params.toList args.toList ds p := hA0
  rw [Try.params10] at hA hval
  obtain ⟨v0, vs0, d0, ds0, p0, q0, hargs, rfl, rfl, h0, r0⟩ := trodAll_cons hA
  obtain ⟨v1, vs1, d1, ds1, p1, q1, rfl, rfl, rfl, h1, r1⟩ := trodAll_cons r0
  obtain ⟨rfl, rfl, rfl⟩ := trodAll_nil r1
  obtain rfl : args = #[v0, v1] := by cases args; simp_all
  obtain ⟨rfl, rfl⟩ := trodVars_none hV
  obtain ⟨a0, rfl, rfl, rfl, w0⟩ := open_int Try.underlying3 (hval 0 3 v0 rfl rfl) h0
  obtain ⟨a1, rfl, rfl, rfl, w1⟩ := open_int Try.underlying3 (hval 1 3 v1 rfl rfl) h1
  clear hA0 hval0
  simp only [List.append_nil] at hW'
  refine (walk a0 a1 w0 w1 W).mono fun e W' ⟨he, hg⟩ => ?_
  subst he
  exact ⟨_, rfl, _, _, _, [], [], [], hW', (trodAll_cons_mk (shut_bool Try.underlying4 _) trodAll_mk0), (trodAll_cons_mk (shut_int Try.underlying3 w0) (trodAll_cons_mk (shut_int Try.underlying3 w1) trodAll_mk0)), rfl, hg.frame _, fun h => by cases h⟩

theorem over : Rows.convWrapsRow.holds Try.pinned (OpenSpec.ofChange Rows.convWrapsSpec) :=
  OpenClaim.holds_of_wide 10 Try.f10 rfl rfl rfl rfl rfl rfl rfl ⟨rfl, rfl, rfl, rfl, rfl⟩ rfl rfl rfl rfl rfl (by kernel_rfl) Try.func10 (by kernel_rfl)
    (of_decide_eq_true (by kernel_rfl)) (by unfold Func.isWrapper; first | (rw [if_pos (by decide +kernel)]; kernel_rfl) | (rw [if_neg (by decide +kernel)]; exact ⟨rfl, rfl⟩))
    (fun os started H enc _ => lifted os started H enc)

theorem proved : Rows.ConvWrapsSaid :=
  over
#print axioms proved
end Go.Proofs.Ytdoaepopkdeonaa.convWraps
