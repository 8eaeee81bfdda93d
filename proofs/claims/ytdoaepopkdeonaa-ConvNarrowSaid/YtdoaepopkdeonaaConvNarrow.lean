/-
  'assart/assartlaw02.ConvNarrow' returns true: for every input, no condition. (The frame of the row: written by the kit's proof-skeleton, turned to 'Below'; the walk: ours.)
-/
import Derived.Test.YtdoaepopkdeonaaRows
import Derived.WalkKit
import Derived.ProofKit
import Derived.OpenShut
import Derived.Test.YtdoaepopkdeonaaD2
namespace Go.Proofs.Ytdoaepopkdeonaa.convNarrow
open Go.ChangeShapes Go.WideShapes Go.ChangeAt Go.RowKit
set_option linter.unusedVariables false
set_option linter.unusedSimpArgs false

theorem own : ownKnob Try.prog.godebug = none := by kernel_rfl

set_option maxRecDepth 100000 in
set_option maxHeartbeats 1600000 in
theorem walk (a0 : Int) (a1 : Int) (a2 : Int) (w0 : (Lit.int .i64 a0).wf = true) (w1 : (Lit.int .i64 a1).wf = true) (w2 : (Lit.int .i64 a2).wf = true) (w : World) :
    Calls Try.prog 8 #[.int .i64 a0, .int .i64 a1, .int .i64 a2] w fun e w' => e = .returned (.bool true) ∧ Below w.heap.size w w' := by
  have hp := mod_bd a0 8 (by decide) (by decide)
  have hq := mod_bd a1 8 (by decide) (by decide)
  obtain ⟨p, hp'⟩ : ∃ k, wrap64 ((IntKind.u64.wrap a0).tmod 8) = k := ⟨_, rfl⟩
  obtain ⟨q, hq'⟩ : ∃ k, wrap64 ((IntKind.u64.wrap a1).tmod 8) = k := ⟨_, rfl⟩
  rw [hp'] at hp
  rw [hq'] at hq
  obtain ⟨A, B, V, W, C, LO, HI, S1, S2, h1, h2, h3, h4, h5, h6, h7, h8, h9, h10, hC⟩ := narrow_calls p q a2 (by omega) (by omega) (by omega) (by omega) (fits_of_wf w2)
  clear w0 w1 w2 hp hq
  by_cases hle : W ≤ V
  all_goals
    first | (have h5' := h5 hle; clear h5) | (have h5' := h2; have hle2 := decide_eq_false hle; clear h5)
    have K : (C = a2 ∧ A = a2 ∧ decide (a2 < LO) = false ∧ decide (HI < a2) = false) ∨ ((C == a2) = false ∧ a2 < LO ∧ C = LO) ∨ ((C == a2) = false ∧ decide (a2 < LO) = false ∧ HI < a2 ∧ C = HI) := by
      rcases hC with ⟨h, hA, h', h''⟩ | ⟨h, h'⟩ | ⟨h, h', h''⟩
      · exact .inl ⟨h, hA, decide_eq_false (by omega), decide_eq_false (by omega)⟩
      · exact .inr (.inl ⟨beq_eq_false_iff_ne.2 (by omega), h, h'⟩)
      · exact .inr (.inr ⟨beq_eq_false_iff_ne.2 (by omega), decide_eq_false (by omega), h', h''⟩)
    clear hC
    rcases K with ⟨rfl, rfl, k1, k2⟩ | ⟨k1, k2, rfl⟩ | ⟨k1, k2, k3, rfl⟩
    all_goals
      go_enter Try.func8, Try.ntmps8
      go_wp2_with (first
        | (go_at_call 16; refine (wraps_ok _).mono ?_; rintro e w' ⟨rfl, rfl⟩)
        | (go_at_call 17; first | (with_reducible refine (h1.use _).mono ?_) | (with_reducible refine (h2.use _).mono ?_) | (with_reducible refine (h5'.use _).mono ?_) | (with_reducible refine (h6.use _).mono ?_) | (with_reducible refine (h8.use _).mono ?_)); rintro e w' ⟨rfl, rfl⟩
        | (go_at_call 31; first | (with_reducible refine (h3.use _).mono ?_) | (with_reducible refine (h4.use _).mono ?_)); rintro e w' ⟨rfl, rfl⟩
        | (go_at_call 32; first | (with_reducible refine (h7.use _).mono ?_) | (with_reducible refine (h9.use _).mono ?_) | (with_reducible refine (h10.use _).mono ?_)); rintro e w' ⟨rfl, rfl⟩)
      all_goals go_ret
      all_goals exact ⟨rfl, Below.refl _ _⟩

set_option maxRecDepth 100000 in
theorem lifted (os : Os) (started : os.Started) (H : Type) (enc : TypeId × Value → H) :
    ReturnsInHanded {} Try.checked os 8 .any (Rows.convNarrowSpec.pre6 enc Try.prog Try.f8 Rows.convNarrowRow.domain false) (Rows.convNarrowSpec.post enc Try.prog Try.f8 false true false false) := by
  refine returnsInHanded_of_change (C := Try.checked) own started (by kernel_rfl) Try.func8
    (ChangeSpec.witness6 (enc := enc) (C := Try.checked) false ⟨#[], #[.int .i64 0, .int .i64 0, .int .i64 0], []⟩ 8 (by kernel_rfl) (by kernel_rfl) (by kernel_rfl) (by kernel_rfl)) ?_
  intro W base args ds gs before hval0 hW hcnd _
  have hval : ∀ (j : Nat) t v, Try.f8.params[j]? = some t → args[j]? = some v → Value.okWide Try.prog W .any base t v := hval0
  have hW' := hW
  obtain ⟨p, q, hA0, hV, rfl, hfz, hnd⟩ := hW
  have hA : DataW.TrodAll enc Try.prog W 0 (fun _ => true) true Try.f8.params.toList args.toList ds p := hA0
  rw [Try.params8] at hA hval
  obtain ⟨v0, vs0, d0, ds0, p0, q0, hargs, rfl, rfl, h0, r0⟩ := trodAll_cons hA
  obtain ⟨v1, vs1, d1, ds1, p1, q1, rfl, rfl, rfl, h1, r1⟩ := trodAll_cons r0
  obtain ⟨v2, vs2, d2, ds2, p2, q2, rfl, rfl, rfl, h2, r2⟩ := trodAll_cons r1
  obtain ⟨rfl, rfl, rfl⟩ := trodAll_nil r2
  obtain rfl : args = #[v0, v1, v2] := by cases args; simp_all
  obtain ⟨rfl, rfl⟩ := trodVars_none hV
  obtain ⟨a0, rfl, rfl, rfl, w0⟩ := open_int Try.underlying3 (hval 0 3 v0 rfl rfl) h0
  obtain ⟨a1, rfl, rfl, rfl, w1⟩ := open_int Try.underlying3 (hval 1 3 v1 rfl rfl) h1
  obtain ⟨a2, rfl, rfl, rfl, w2⟩ := open_int Try.underlying3 (hval 2 3 v2 rfl rfl) h2
  clear hA0 hval0
  simp only [List.append_nil] at hW'
  refine (walk a0 a1 a2 w0 w1 w2 W).mono fun e W' ⟨he, hg⟩ => ?_
  subst he
  exact ⟨_, rfl, _, _, _, [], [], [], hW', (trodAll_cons_mk (shut_bool Try.underlying4 _) trodAll_mk0), (trodAll_cons_mk (shut_int Try.underlying3 w0) (trodAll_cons_mk (shut_int Try.underlying3 w1) (trodAll_cons_mk (shut_int Try.underlying3 w2) trodAll_mk0))), rfl, hg.frame _, fun h => by cases h⟩

theorem over : Rows.convNarrowRow.holds Try.pinned (OpenSpec.ofChange Rows.convNarrowSpec) :=
  OpenClaim.holds_of_wide 8 Try.f8 rfl rfl rfl rfl rfl rfl rfl ⟨rfl, rfl, rfl, rfl, rfl⟩ rfl rfl rfl rfl rfl (by kernel_rfl) Try.func8 (by kernel_rfl)
    (of_decide_eq_true (by kernel_rfl)) (by unfold Func.isWrapper; first | (rw [if_pos (by decide +kernel)]; kernel_rfl) | (rw [if_neg (by decide +kernel)]; exact ⟨rfl, rfl⟩))
    (fun os started H enc _ => lifted os started H enc)

theorem proved : Rows.ConvNarrowSaid :=
  over
#print axioms proved
end Go.Proofs.Ytdoaepopkdeonaa.convNarrow
