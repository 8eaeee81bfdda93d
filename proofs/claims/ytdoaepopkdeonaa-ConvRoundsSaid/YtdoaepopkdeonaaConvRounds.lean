/-
  'assart/assartlaw02.ConvRounds' returns true: for every input, no condition. (The frame of the row: written by the kit's proof-skeleton, turned to 'Below'; the walk: ours.)
-/
import Derived.Test.YtdoaepopkdeonaaRows
import Derived.WalkKit
import Derived.ProofKit
import Derived.OpenShut
import Derived.Test.YtdoaepopkdeonaaE4
namespace Go.Proofs.Ytdoaepopkdeonaa.convRounds
open Go.ChangeShapes Go.WideShapes Go.ChangeAt Go.RowKit
set_option linter.unusedVariables false
set_option linter.unusedSimpArgs false

theorem own : ownKnob Try.prog.godebug = none := by kernel_rfl

set_option maxRecDepth 100000 in
set_option maxHeartbeats 1600000 in
theorem walk (a0 : Int) (a1 : Int) (a2 : Int) (w0 : (Lit.int .i64 a0).wf = true) (w1 : (Lit.int .i64 a1).wf = true) (w2 : (Lit.int .i64 a2).wf = true) (w : World) :
    Calls Try.prog 11 #[.int .i64 a0, .int .i64 a1, .int .i64 a2] w fun e w' => e = .returned (.bool true) ∧ Below w.heap.size w w' := by
  have hn := fits_of_wf w1
  by_cases hk : a0 < 0 ∨ 7 < a0
  · have h1 : DT a0 a1 a2 0 1 := fun w => docTurn_no a0 a1 a2 hk w
    have h2 : CT a0 a1 a2 0 1 := fun w => turn_no a0 a1 a2 hk w
    clear w0 w1 w2 hn hk
    go_enter Try.func11, Try.ntmps11
    go_wp2_with (first
      | (go_at_call 16; refine (wraps_ok _).mono ?_; rintro e w' ⟨rfl, rfl⟩)
      | (go_at_call 37; refine (h1.use _).mono ?_; rintro e wa ⟨rfl, hba⟩)
      | (go_at_call 29; refine (h2.use _).mono ?_; rintro e w' ⟨rfl, rfl⟩))
    go_ret
    exact ⟨rfl, hba⟩
  · obtain ⟨B, W, X, Y, h1, h2, h3, h4, h5, h6, h7⟩ := rounds_calls a0 a1 a2 (by omega) (by omega) hn
    have r1 := Int.tmod_lt_of_pos a2 (show (0 : Int) < (1000 : Nat) by decide)
    have r2 := tmod_gt a2 1000 (by decide)
    have r3 := Int.tmod_lt_of_pos a2 (show (0 : Int) < (64 : Nat) by decide)
    have r4 := tmod_gt a2 64 (by decide)
    simp only [Int.cast_ofNat_Int] at r1 r2 r3 r4
    clear w0 w1 w2 hn hk
    go_enter Try.func11, Try.ntmps11
    go_wp2_with (first
      | (go_at_call 16; refine (wraps_ok _).mono ?_; rintro e w' ⟨rfl, rfl⟩)
      | (go_at_call 37; refine (h1.use _).mono ?_; rintro e wa ⟨rfl, hba⟩)
      | (go_at_call 17; refine (h3.use _).mono ?_; rintro e w' ⟨rfl, rfl⟩)
      | (go_at_call 29; first | (with_reducible refine (h2.use _).mono ?_) | (with_reducible refine (h4.use _).mono ?_) | (with_reducible refine (h5.use _).mono ?_) | (with_reducible refine (h6.use _).mono ?_) | (with_reducible refine (h7.use _).mono ?_)); rintro e w' ⟨rfl, rfl⟩)
    go_ret
    exact ⟨rfl, hba⟩

set_option maxRecDepth 100000 in
theorem lifted (os : Os) (started : os.Started) (H : Type) (enc : TypeId × Value → H) :
    ReturnsInHanded {} Try.checked os 11 .any (Rows.convRoundsSpec.pre6 enc Try.prog Try.f11 Rows.convRoundsRow.domain false) (Rows.convRoundsSpec.post enc Try.prog Try.f11 false true false false) := by
  refine returnsInHanded_of_change (C := Try.checked) own started (by kernel_rfl) Try.func11
    (ChangeSpec.witness6 (enc := enc) (C := Try.checked) false ⟨#[], #[.int .i64 0, .int .i64 0, .int .i64 0], []⟩ 8 (by kernel_rfl) (by kernel_rfl) (by kernel_rfl) (by kernel_rfl)) ?_
  intro W base args ds gs before hval0 hW hcnd _
  have hval : ∀ (j : Nat) t v, Try.f11.params[j]? = some t → args[j]? = some v → Value.okWide Try.prog W .any base t v := hval0
  have hW' := hW
  obtain ⟨p, q, hA0, hV, rfl, hfz, hnd⟩ := hW
  have hA : DataW.TrodAll enc Try.prog W 0 (fun _ => true) true Try.f11.params.toList args.toList ds p := hA0
  rw [Try.params11] at hA hval
  obtain ⟨v0, vs0, d0, ds0, p0, q0, hargs, rfl, rfl, h0, r0⟩ := trodAll_cons hA
  obtain ⟨v1, vs1, d1, ds1, p1, q1, rfl, rfl, rfl, h1, r1⟩ := trodAll_cons r0
  obtain ⟨v2, vs2, d2, ds2, p2, q2, rfl, rfl, rfl, h2, r2⟩ := trodAll_cons r1
  obtain ⟨rfl, rfl, rfl⟩ := trodAll_nil r2
  obtain rfl : args = #[v0, v1, v2] := by cases args; simp_all
  obtain ⟨rfl, rfl⟩ := trodVars_none hV
  obtain ⟨a0, rfl, rfl, rfl, w0⟩ := open_int Try.underlying3 (hval 0 3 v0 rfl rfl) h0
  obtain ⟨a1, rfl, rfl, rfl, w1⟩ := open_int Try.underlying3 (hval 1 3 v1 rfl rfl) h1
  obtain ⟨a2, rfl, rfl, rfl, w2⟩ := open_int Try.underlying3 (hval 2 3 v2 rfl rfl) h2
  clear hA0 hval0
  simp only [List.append_nil] at hW'
  refine (walk a0 a1 a2 w0 w1 w2 W).mono fun e W' ⟨he, hg⟩ => ?_
  subst he
  exact ⟨_, rfl, _, _, _, [], [], [], hW', (trodAll_cons_mk (shut_bool Try.underlying4 _) trodAll_mk0), (trodAll_cons_mk (shut_int Try.underlying3 w0) (trodAll_cons_mk (shut_int Try.underlying3 w1) (trodAll_cons_mk (shut_int Try.underlying3 w2) trodAll_mk0))), rfl, hg.frame _, fun h => by cases h⟩

theorem over : Rows.convRoundsRow.holds Try.pinned (OpenSpec.ofChange Rows.convRoundsSpec) :=
  OpenClaim.holds_of_wide 11 Try.f11 rfl rfl rfl rfl rfl rfl rfl ⟨rfl, rfl, rfl, rfl, rfl⟩ rfl rfl rfl rfl rfl (by kernel_rfl) Try.func11 (by kernel_rfl)
    (of_decide_eq_true (by kernel_rfl)) (by unfold Func.isWrapper; first | (rw [if_pos (by decide +kernel)]; kernel_rfl) | (rw [if_neg (by decide +kernel)]; exact ⟨rfl, rfl⟩))
    (fun os started H enc _ => lifted os started H enc)

theorem proved : Rows.ConvRoundsSaid :=
  over
#print axioms proved
end Go.Proofs.Ytdoaepopkdeonaa.convRounds
