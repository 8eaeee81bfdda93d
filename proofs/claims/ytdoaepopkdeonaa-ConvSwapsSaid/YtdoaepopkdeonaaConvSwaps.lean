/-
  'assart/assartlaw02.ConvSwaps' returns true: for every input, no condition. (The frame of the row: written by the kit's proof-skeleton, turned to 'Below'; the walk: ours.)
-/
import Derived.Test.YtdoaepopkdeonaaRows
import Derived.WalkKit
import Derived.ProofKit
import Derived.OpenShut
import Derived.Test.YtdoaepopkdeonaaD5
namespace Go.Proofs.Ytdoaepopkdeonaa.convSwaps
open Go.ChangeShapes Go.WideShapes Go.ChangeAt Go.RowKit
set_option linter.unusedVariables false
set_option linter.unusedSimpArgs false

theorem own : ownKnob Try.prog.godebug = none := by kernel_rfl

set_option maxRecDepth 100000 in
set_option maxHeartbeats 1600000 in
theorem walk (a0 : Int) (a1 : Int) (w0 : (Lit.int .i64 a0).wf = true) (w1 : (Lit.int .i64 a1).wf = true) (w : World) :
    Calls Try.prog 9 #[.int .i64 a0, .int .i64 a1] w fun e w' => e = .returned (.bool true) ∧ Below w.heap.size w w' := by
  have hp := mod_bd a0 8 (by decide) (by decide)
  obtain ⟨p, hp'⟩ : ∃ k, wrap64 ((IntKind.u64.wrap a0).tmod 8) = k := ⟨_, rfl⟩
  rw [hp'] at hp
  obtain ⟨V, W, X, L, S, v1, v2, h1, h2, h3, h4, h5, h6⟩ := swaps_calls p a1 (by omega) (by omega) (fits_of_wf w1)
  clear w0 w1 hp
  go_enter Try.func9, Try.ntmps9
  go_wp2_with (first
    | (go_at_call 16; refine (wraps_ok _).mono ?_; rintro e w' ⟨rfl, rfl⟩)
    | (go_at_call 31; first | (with_reducible refine (h1.use _).mono ?_)); rintro e w' ⟨rfl, rfl⟩
    | (go_at_call 17; first | (with_reducible refine (h2.use _).mono ?_)); rintro e w' ⟨rfl, rfl⟩
    | (go_at_call 27; (with_reducible refine (h3.use _).mono ?_); rintro e wa ⟨rfl, hba⟩)
    | (go_at_call 27; (with_reducible refine (h4.use _).mono ?_); rintro e wb ⟨rfl, hbb⟩)
    | (go_at_call 19; first | (with_reducible refine (h5.use _).mono ?_) | (with_reducible refine (h6.use _).mono ?_)); rintro e w' ⟨rfl, rfl⟩)
  go_ret
  exact ⟨rfl, below_trans hba hbb⟩

set_option maxRecDepth 100000 in
theorem lifted (os : Os) (started : os.Started) (H : Type) (enc : TypeId × Value → H) :
    ReturnsInHanded {} Try.checked os 9 .any (Rows.convSwapsSpec.pre6 enc Try.prog Try.f9 Rows.convSwapsRow.domain false) (Rows.convSwapsSpec.post enc Try.prog Try.f9 false true false false) := by
  refine returnsInHanded_of_change (C := Try.checked) own started (by kernel_rfl) Try.func9
    (ChangeSpec.witness6 (enc := enc) (C := Try.checked) false ⟨#[], #[.int .i64 0, .int .i64 0], []⟩ 8 (by kernel_rfl) (by kernel_rfl) (by kernel_rfl) (by kernel_rfl)) ?_
  intro W base args ds gs before hval0 hW hcnd _
  have hval : ∀ (j : Nat) t v, Try.f9.params[j]? = some t → args[j]? = some v → Value.okWide Try.prog W .any base t v := hval0
  have hW' := hW
  obtain ⟨p, q, hA0, hV, rfl, hfz, hnd⟩ := hW
  have hA : DataW.TrodAll enc Try.prog W 0 (fun _ => true) true Try.f9.params.toList args.toList ds p := hA0
  rw [Try.params9] at hA hval
  obtain ⟨v0, vs0, d0, ds0, p0, q0, hargs, rfl, rfl, h0, r0⟩ := trodAll_cons hA
  obtain ⟨v1, vs1, d1, ds1, p1, q1, rfl, rfl, rfl, h1, r1⟩ := trodAll_cons r0
  obtain ⟨rfl, rfl, rfl⟩ := trodAll_nil r1
  obtain rfl : args = #[v0, v1] := by cases args; simp_all
  obtain ⟨rfl, rfl⟩ := trodVars_none hV
  obtain ⟨a0, rfl, rfl, rfl, w0⟩ := open_int Try.underlying3 (hval 0 3 v0 rfl rfl) h0
  obtain ⟨a1, rfl, rfl, rfl, w1⟩ := open_int Try.underlying3 (hval 1 3 v1 rfl rfl) h1
  clear hA0 hval0
  simp only [List.append_nil] at hW'
  refine (walk a0 a1 w0 w1 W).mono fun e W' ⟨he, hg⟩ => ?_
  subst he
  exact ⟨_, rfl, _, _, _, [], [], [], hW', (trodAll_cons_mk (shut_bool Try.underlying4 _) trodAll_mk0), (trodAll_cons_mk (shut_int Try.underlying3 w0) (trodAll_cons_mk (shut_int Try.underlying3 w1) trodAll_mk0)), rfl, hg.frame _, fun h => by cases h⟩

theorem over : Rows.convSwapsRow.holds Try.pinned (OpenSpec.ofChange Rows.convSwapsSpec) :=
  OpenClaim.holds_of_wide 9 Try.f9 rfl rfl rfl rfl rfl rfl rfl ⟨rfl, rfl, rfl, rfl, rfl⟩ rfl rfl rfl rfl rfl (by kernel_rfl) Try.func9 (by kernel_rfl)
    (of_decide_eq_true (by kernel_rfl)) (by unfold Func.isWrapper; first | (rw [if_pos (by decide +kernel)]; kernel_rfl) | (rw [if_neg (by decide +kernel)]; exact ⟨rfl, rfl⟩))
    (fun os started H enc _ => lifted os started H enc)

theorem proved : Rows.ConvSwapsSaid :=
  over
#print axioms proved
end Go.Proofs.Ytdoaepopkdeonaa.convSwaps
