/-
  'assart/assartlaw02.ConvFields' returns true: for every input, no condition. (The frame of the row: written by the kit's proof-skeleton, turned to 'Below'; the walk: ours.)
-/
import Derived.Test.YtdoaepopkdeonaaRows
import Derived.WalkKit
import Derived.ProofKit
import Derived.OpenShut
import Derived.Test.YtdoaepopkdeonaaC4
namespace Go.Proofs.Ytdoaepopkdeonaa.convFields
open Go.ChangeShapes Go.WideShapes Go.ChangeAt Go.RowKit
set_option linter.unusedVariables false
set_option linter.unusedSimpArgs false

theorem own : ownKnob Try.prog.godebug = none := by kernel_rfl

set_option maxRecDepth 100000 in
set_option maxHeartbeats 1600000 in
theorem walk (a0 : Int) (a1 : Int) (a2 : Int) (w0 : (Lit.int .u64 a0).wf = true) (w1 : (Lit.int .i64 a1).wf = true) (w2 : (Lit.int .i64 a2).wf = true) (w : World) :
    Calls Try.prog 5 #[.int .u64 a0, .int .i64 a1, .int .i64 a2] w fun e w' => e = .returned (.bool true) ∧ Below w.heap.size w w' := by
  obtain ⟨N, rfl, hN⟩ := nat_of_wf w0
  by_cases hf : FieldOk a1 a2
  · obtain ⟨a, rfl⟩ := Int.eq_ofNat_of_zero_le hf.1
    obtain ⟨b, rfl⟩ := Int.eq_ofNat_of_zero_le hf.2.1
    have h : a + b ≤ 64 := by have := hf.2.2; omega
    have h1 : DG N a b (getN N a b : Nat) 0 := fun w => docGet_yes N a b hN h w
    have h2 : CG N a b (getN N a b : Nat) 0 := fun w => get_yes N a b hN h w
    have HR := Lib.hid (fun T hT => fields_round N a b T hN hT h)
    have HX := Lib.hid (u64_nat .xor ((N : Int) / 128) 11400714819323198485)
    generalize getN N a b = g at *
    have hb : b ≤ 64 := by omega
    clear w0 w1 w2 hf hN h
    go_enter Try.func5, Try.ntmps5
    go_wp2_with (first
      | (go_at_call 16; refine (wraps_ok _).mono ?_; rintro e w' ⟨rfl, rfl⟩)
      | (go_at_call 18; refine (h1.use _).mono ?_; rintro e wa ⟨rfl, hba⟩)
      | (go_at_call 19; refine (h2.use _).mono ?_; rintro e w' ⟨rfl, rfl⟩))
    go_loopw [11, 12] (fun t i wr => ∃ k T : Nat, k ≤ 2 ∧ i = .int .i64 k ∧ t = .int .u64 T ∧ T ≤ 18446744073709551615 ∧ Below w.heap.size w wr) (fun _ i _ => 2 - (intOf i).toNat)
    case atStart =>
      obtain ⟨T, hT1, hT2⟩ := HX.out
      exact ⟨0, T, by omega, rfl, by rw [← hT1], hT2, hba⟩
    case round =>
      clear hba
      obtain ⟨k, T, hk, rfl, rfl, hT, hnx⟩ := hrel
      by_cases hlt : k < 2
      · rcases HR.out T hT with ⟨D, h3, h4, h5, h6⟩ | ⟨h3, h4⟩
        · go_wp2_with (first
            | (go_at_call 20; refine (h3.use _).mono ?_; rintro e wb ⟨rfl, hbb⟩)
            | (go_at_call 21; first | (with_reducible refine (h4.use _).mono ?_) | (with_reducible refine (h6.use _).mono ?_)); rintro e w' ⟨rfl, rfl⟩
            | (go_at_call 19; refine (h5.use _).mono ?_; rintro e w' ⟨rfl, rfl⟩))
          go_roundw
          case rel => exact ⟨k + 1, T / 2 ^ (64 - b), by omega, by go_num, by simp, Nat.le_trans (Nat.div_le_self _ _) hT, hnx.trans (hbb.mono hnx.size)⟩
          case measure => simp [intOf]; omega
        · go_wp2_with (first
            | (go_at_call 20; refine (h3.use _).mono ?_; rintro e wb ⟨rfl, hbb⟩)
            | (go_at_call 21; refine (h4.use _).mono ?_; rintro e w' ⟨rfl, rfl⟩))
          go_roundw
          case rel => exact ⟨k + 1, T / 2 ^ (64 - b), by omega, by go_num, by simp, Nat.le_trans (Nat.div_le_self _ _) hT, hnx.trans (hbb.mono hnx.size)⟩
          case measure => simp [intOf]; omega
      · have : k = 2 := by omega
        subst this
        go_wp2
        go_ret
        exact ⟨rfl, hnx⟩
  · have h1 : DG N a1 a2 0 1 := fun w => docGet_no N a1 a2 hf w
    have h2 : CG N a1 a2 0 1 := fun w => get_no N a1 a2 hf w
    have h3 : ∀ T : Nat, DS N a1 a2 T 0 1 := fun T w => docSet_no N T a1 a2 hf w
    have h4 : ∀ T : Nat, CS N a1 a2 T 0 1 := fun T w => set_no N T a1 a2 hf w
    have H3 := Lib.hid h3
    have H4 := Lib.hid h4
    have HX := Lib.hid (u64_nat .xor ((N : Int) / 128) 11400714819323198485)
    clear w0 w1 w2 hf hN h3 h4
    go_enter Try.func5, Try.ntmps5
    go_wp2_with (first
      | (go_at_call 16; refine (wraps_ok _).mono ?_; rintro e w' ⟨rfl, rfl⟩)
      | (go_at_call 18; refine (h1.use _).mono ?_; rintro e wa ⟨rfl, hba⟩)
      | (go_at_call 19; refine (h2.use _).mono ?_; rintro e w' ⟨rfl, rfl⟩))
    go_loopw [11, 12] (fun t i wr => ∃ T : Nat, i = .int .i64 0 ∧ t = .int .u64 T ∧ Below w.heap.size w wr) (fun _ i _ => 2 - (intOf i).toNat)
    case atStart =>
      obtain ⟨T, hT1, hT2⟩ := HX.out
      exact ⟨T, rfl, by rw [← hT1], hba⟩
    case round =>
      clear hba
      obtain ⟨T, rfl, rfl, hnx⟩ := hrel
      go_wp2_with (first
        | (go_at_call 20; refine ((H3.out T).use _).mono ?_; rintro e wb ⟨rfl, hbb⟩)
        | (go_at_call 21; refine ((H4.out T).use _).mono ?_; rintro e w' ⟨rfl, rfl⟩))
      go_ret
      exact ⟨rfl, hnx.trans (hbb.mono hnx.size)⟩

set_option maxRecDepth 100000 in
theorem lifted (os : Os) (started : os.Started) (H : Type) (enc : TypeId × Value → H) :
    ReturnsInHanded {} Try.checked os 5 .any (Rows.convFieldsSpec.pre6 enc Try.prog Try.f5 Rows.convFieldsRow.domain false) (Rows.convFieldsSpec.post enc Try.prog Try.f5 false true false false) := by
  refine returnsInHanded_of_change (C := Try.checked) own started (by kernel_rfl) Try.func5
    (ChangeSpec.witness6 (enc := enc) (C := Try.checked) false ⟨#[], #[.int .u64 0, .int .i64 0, .int .i64 0], []⟩ 8 (by kernel_rfl) (by kernel_rfl) (by kernel_rfl) (by kernel_rfl)) ?_
  intro W base args ds gs before hval0 hW hcnd _
  have hval : ∀ (j : Nat) t v, Try.f5.params[j]? = some t → args[j]? = some v → Value.okWide Try.prog W .any base t v := hval0
  have hW' := hW
  obtain ⟨p, q, hA0, hV, rfl, hfz, hnd⟩ := hW
  have hA : DataW.TrodAll enc Try.prog W 0 (fun _ => true) true Try.f5.params.toList args.toList ds p := hA0
  rw [Try.params5] at hA hval
  obtain ⟨v0, vs0, d0, ds0, p0, q0, hargs, rfl, rfl, h0, r0⟩ := trodAll_cons hA
  obtain ⟨v1, vs1, d1, ds1, p1, q1, rfl, rfl, rfl, h1, r1⟩ := trodAll_cons r0
  obtain ⟨v2, vs2, d2, ds2, p2, q2, rfl, rfl, rfl, h2, r2⟩ := trodAll_cons r1
  obtain ⟨rfl, rfl, rfl⟩ := trodAll_nil r2
  obtain rfl : args = #[v0, v1, v2] := by cases args; simp_all
  obtain ⟨rfl, rfl⟩ := trodVars_none hV
  obtain ⟨a0, rfl, rfl, rfl, w0⟩ := open_int Try.underlying27 (hval 0 27 v0 rfl rfl) h0
  obtain ⟨a1, rfl, rfl, rfl, w1⟩ := open_int Try.underlying3 (hval 1 3 v1 rfl rfl) h1
  obtain ⟨a2, rfl, rfl, rfl, w2⟩ := open_int Try.underlying3 (hval 2 3 v2 rfl rfl) h2
  clear hA0 hval0
  simp only [List.append_nil] at hW'
  refine (walk a0 a1 a2 w0 w1 w2 W).mono fun e W' ⟨he, hg⟩ => ?_
  subst he
  exact ⟨_, rfl, _, _, _, [], [], [], hW', (trodAll_cons_mk (shut_bool Try.underlying4 _) trodAll_mk0), (trodAll_cons_mk (shut_int Try.underlying27 w0) (trodAll_cons_mk (shut_int Try.underlying3 w1) (trodAll_cons_mk (shut_int Try.underlying3 w2) trodAll_mk0))), rfl, hg.frame _, fun h => by cases h⟩

theorem over : Rows.convFieldsRow.holds Try.pinned (OpenSpec.ofChange Rows.convFieldsSpec) :=
  OpenClaim.holds_of_wide 5 Try.f5 rfl rfl rfl rfl rfl rfl rfl ⟨rfl, rfl, rfl, rfl, rfl⟩ rfl rfl rfl rfl rfl (by kernel_rfl) Try.func5 (by kernel_rfl)
    (of_decide_eq_true (by kernel_rfl)) (by unfold Func.isWrapper; first | (rw [if_pos (by decide +kernel)]; kernel_rfl) | (rw [if_neg (by decide +kernel)]; exact ⟨rfl, rfl⟩))
    (fun os started H enc _ => lifted os started H enc)

theorem proved : Rows.ConvFieldsSaid :=
  over
#print axioms proved
end Go.Proofs.Ytdoaepopkdeonaa.convFields
