/-
  'assart/assarttop.AssartNumbers' returns true: for every input, no condition. (The frame of the row: written by the kit's proof-skeleton, turned to 'Below'; the walk: ours.)
-/
import Derived.Test.YtdoaepopkdeonaaRows
import Derived.WalkKit
import Derived.ProofKit
import Derived.OpenShut
import Derived.Test.YtdoaepopkdeonaaF2
namespace Go.Proofs.Ytdoaepopkdeonaa.assartNumbers
open Vi Sl Go.ChangeShapes Go.WideShapes Go.ChangeAt Go.RowKit
set_option linter.unusedVariables false
set_option linter.unusedSimpArgs false

theorem own : ownKnob Try.prog.godebug = none := by kernel_rfl

set_option maxRecDepth 100000 in
set_option maxHeartbeats 1600000 in
theorem walk (a0 : Int) (a1 : Int) (a2 : Int) (w0 : (Lit.int .i64 a0).wf = true) (w1 : (Lit.int .i64 a1).wf = true) (w2 : (Lit.int .u32 a2).wf = true) (w : World) :
    Calls Try.prog 7 #[.int .i64 a0, .int .i64 a1, .int .u32 a2] w fun e w' => e = .returned (.bool true) ∧ Below w.heap.size w w' := by
  obtain ⟨sum, rfl, hsum⟩ : ∃ s : Nat, a2 = s ∧ s ≤ 4294967295 := by
    simp [Lit.wf, IntKind.min, IntKind.max, IntKind.bits, IntKind.signed] at w2
    exact ⟨a2.toNat, by omega, by omega⟩
  have hp := mod_bd a1 8 (by decide) (by decide)
  obtain ⟨p, hp'⟩ : ∃ k, wrap64 ((IntKind.u64.wrap a1).tmod 8) = k := ⟨_, rfl⟩
  rw [hp'] at hp
  obtain ⟨hp0, hp7⟩ := hp
  obtain ⟨L, Q, X, R, Z, h1, h2, h3, h4, hX, hQ, h5, h6, hR0, hR1, h7, hZ0, hZ1, h8⟩ := numbers_calls a0 p sum hp0 hp7 hsum
  have H2 := Lib.hid h2
  have H3 := Lib.hid h3
  have H8 := Lib.hid h8
  have HX := Lib.hid hX
  have HE := Lib.hid (encode_whole Q hQ)
  clear w0 w1 w2 h2 h3 h8 hX
  have hQ2 : (Q : Int) ≤ 72057594037927935 := by omega
  have hp71 : p ≤ 7 := by omega
  clear hQ hp7
  go_enter Try.func7, Try.ntmps7
  go_wp2_with fail
  refine (awake_ok _).mono ?_
  rintro e x1 ⟨rfl, b1⟩
  go_wp2_with (go_at_call 19; refine (h1.use _).mono ?_; rintro e w' ⟨rfl, rfl⟩)
  refine (H2.out _).mono ?_
  rintro e x2 ⟨v2, rfl, hw2, b2⟩
  have HW2 := Lib.hid hw2
  clear hw2
  go_wp2_with fail
  refine (HW2.out).mono ?_
  rintro e w' ⟨rfl, rfl⟩
  go_wp2_with fail
  refine (H3.out _).mono ?_
  rintro e x3 ⟨v3, k3, rfl, hw3, b3⟩
  have HW3 := Lib.hid hw3
  clear hw3
  go_wp2_with fail
  refine (HW3.out).mono ?_
  rintro e w' ⟨rfl, rfl⟩
  go_wp2_with fail
  refine (h4.use _).mono ?_
  rintro e x4 ⟨rfl, b4⟩
  go_wp2_with fail
  refine (fixed_8 a0 _).mono ?_
  rintro e x5 ⟨g5, c5, rfl, hg5, hc5, b5⟩
  go_wp2_with fail
  refine (fixed_8 X _).mono ?_
  rintro e x6 ⟨g6, c6, rfl, hg6, hc6, b6⟩
  have hbA := below_trans (below_trans (below_trans (below_trans (below_trans b1 b2) b3) b4) b5) b6
  go_wp2
  go_loopw [19] (fun i wr => ∃ k : Nat, k ≤ 8 ∧ i = .int .i64 k ∧ Below x6.heap.size x6 wr) (fun i _ => 8 - (intOf i).toNat)
  case atStart => exact ⟨0, Nat.zero_le _, rfl, Below.refl _ _⟩
  case round =>
    obtain ⟨k, hk, rfl, hnx⟩ := hrel
    by_cases hlt : k < 8
    · have e1 : wr.cell? ⟨g5, k, none⟩ = some (.int .u8 ((U a0 / 256 ^ k % 256 : Nat) : Int)) := by
        rw [hnx.cell (by exact Nat.lt_of_lt_of_le hg5 b6.size), b6.cell (by exact hg5)]; exact hc5.out k hlt
      have e2 : wr.cell? ⟨g6, 7 - k, none⟩ = some (.int .u8 ((U a0 / 256 ^ k % 256 : Nat) : Int)) := by
        rw [hnx.cell (by exact hg6), hc6.out (7 - k) (by omega), HX.out, swap_byte a0 k hlt]
      generalize ((U a0 / 256 ^ k % 256 : Nat) : Int) = y at *
      go_wp2
      go_quiet (fail)
      go_wp2
      go_roundw
      case rel => exact ⟨k + 1, by omega, by go_num, below_drawn hnx _⟩
      case measure => simp [intOf]; omega
    · have : k = 8 := by omega
      subst this
      go_wp2_with (go_at_call 19; refine (h5.use _).mono ?_; rintro e w' ⟨rfl, rfl⟩)
      refine (HE.out _).mono ?_
      rintro e x7 ⟨g7, o7, c7, rfl, hle7, hm7, hw7, b7⟩
      have HW7 := Lib.hid hw7
      clear hw7
      go_wp2_with (first
        | (go_at_call 24; refine (HW7.out _).mono ?_; rintro e w' ⟨rfl, rfl⟩)
        | (go_at_call 29; refine (h6.use _).mono ?_; rintro e w' ⟨rfl, rfl⟩)
        | (go_at_call 17; refine (h7.use _).mono ?_; rintro e w' ⟨rfl, rfl⟩)
        | (go_at_call 30; refine (H8.out _).mono ?_; rintro e w' ⟨rfl, rfl⟩))
      go_ret
      exact ⟨rfl, hbA.trans ((below_trans hnx b7).mono hbA.size)⟩

set_option maxRecDepth 100000 in
theorem lifted (os : Os) (started : os.Started) (H : Type) (enc : TypeId × Value → H) :
    ReturnsInHanded {} Try.checked os 7 .any (Rows.assartNumbersSpec.pre6 enc Try.prog Try.f7 Rows.assartNumbersRow.domain false) (Rows.assartNumbersSpec.post enc Try.prog Try.f7 false true false false) := by
  refine returnsInHanded_of_change (C := Try.checked) own started (by kernel_rfl) Try.func7
    (ChangeSpec.witness6 (enc := enc) (C := Try.checked) false ⟨#[], #[.int .i64 0, .int .i64 0, .int .u32 0], []⟩ 8 (by kernel_rfl) (by kernel_rfl) (by kernel_rfl) (by kernel_rfl)) ?_
  intro W base args ds gs before hval0 hW hcnd _
  have hval : ∀ (j : Nat) t v, Try.f7.params[j]? = some t → args[j]? = some v → Value.okWide Try.prog W .any base t v := hval0
  have hW' := hW
  obtain ⟨p, q, hA0, hV, rfl, hfz, hnd⟩ := hW
  have hA : DataW.TrodAll enc Try.prog W 0 (fun _ => true) true Try.f7.params.toList args.toList ds p := hA0
  rw [Try.params7] at hA hval
  obtain ⟨v0, vs0, d0, ds0, p0, q0, hargs, rfl, rfl, h0, r0⟩ := trodAll_cons hA
  obtain ⟨v1, vs1, d1, ds1, p1, q1, rfl, rfl, rfl, h1, r1⟩ := trodAll_cons r0
  obtain ⟨v2, vs2, d2, ds2, p2, q2, rfl, rfl, rfl, h2, r2⟩ := trodAll_cons r1
  obtain ⟨rfl, rfl, rfl⟩ := trodAll_nil r2
  obtain rfl : args = #[v0, v1, v2] := by cases args; simp_all
  obtain ⟨rfl, rfl⟩ := trodVars_none hV
  obtain ⟨a0, rfl, rfl, rfl, w0⟩ := open_int Try.underlying3 (hval 0 3 v0 rfl rfl) h0
  obtain ⟨a1, rfl, rfl, rfl, w1⟩ := open_int Try.underlying3 (hval 1 3 v1 rfl rfl) h1
  obtain ⟨a2, rfl, rfl, rfl, w2⟩ := open_int Try.underlying35 (hval 2 35 v2 rfl rfl) h2
  clear hA0 hval0
  simp only [List.append_nil] at hW'
  refine (walk a0 a1 a2 w0 w1 w2 W).mono fun e W' ⟨he, hg⟩ => ?_
  subst he
  exact ⟨_, rfl, _, _, _, [], [], [], hW', (trodAll_cons_mk (shut_bool Try.underlying4 _) trodAll_mk0), (trodAll_cons_mk (shut_int Try.underlying3 w0) (trodAll_cons_mk (shut_int Try.underlying3 w1) (trodAll_cons_mk (shut_int Try.underlying35 w2) trodAll_mk0))), rfl, hg.frame _, fun h => by cases h⟩

theorem over : Rows.assartNumbersRow.holds Try.pinned (OpenSpec.ofChange Rows.assartNumbersSpec) :=
  OpenClaim.holds_of_wide 7 Try.f7 rfl rfl rfl rfl rfl rfl rfl ⟨rfl, rfl, rfl, rfl, rfl⟩ rfl rfl rfl rfl rfl (by kernel_rfl) Try.func7 (by kernel_rfl)
    (of_decide_eq_true (by kernel_rfl)) (by unfold Func.isWrapper; first | (rw [if_pos (by decide +kernel)]; kernel_rfl) | (rw [if_neg (by decide +kernel)]; exact ⟨rfl, rfl⟩))
    (fun os started H enc _ => lifted os started H enc)

theorem proved : Rows.AssartNumbersSaid :=
  over
#print axioms proved
end Go.Proofs.Ytdoaepopkdeonaa.assartNumbers
