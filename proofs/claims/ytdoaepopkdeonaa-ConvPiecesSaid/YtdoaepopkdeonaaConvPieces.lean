/-
  'assart/assartlaw02.ConvPieces' returns true: for every input, no condition. (The frame of the row: written by the kit's proof-skeleton, turned to 'Below'; the walk: ours.)
-/
import Derived.Test.YtdoaepopkdeonaaRows
import Derived.WalkKit
import Derived.ProofKit
import Derived.OpenShut
import Derived.Test.YtdoaepopkdeonaaC5
namespace Go.Proofs.Ytdoaepopkdeonaa.convPieces
open Go.ChangeShapes Go.WideShapes Go.ChangeAt Go.RowKit
set_option linter.unusedVariables false
set_option linter.unusedSimpArgs false

theorem own : ownKnob Try.prog.godebug = none := by kernel_rfl

set_option maxRecDepth 100000 in
set_option maxHeartbeats 1600000 in
theorem walk (a0 : Int) (a1 : Int) (a2 : Int) (w0 : (Lit.int .u64 a0).wf = true) (w1 : (Lit.int .i64 a1).wf = true) (w2 : (Lit.int .i64 a2).wf = true) (w : World) :
    Calls Try.prog 6 #[.int .u64 a0, .int .i64 a1, .int .i64 a2] w fun e w' => e = .returned (.bool true) ∧ Below w.heap.size w w' := by
  obtain ⟨N, rfl, hN⟩ := nat_of_wf w0
  have hp := mod_bd a1 65 (by decide) (by decide)
  have hq := mod_bd a2 65 (by decide) (by decide)
  obtain ⟨p, hp'⟩ : ∃ k, wrap64 ((IntKind.u64.wrap a1).tmod 65) = k := ⟨_, rfl⟩
  obtain ⟨q, hq'⟩ : ∃ k, wrap64 ((IntKind.u64.wrap a2).tmod 65) = k := ⟨_, rfl⟩
  rw [hp'] at hp
  rw [hq'] at hq
  obtain ⟨hp0, hp1⟩ := hp
  obtain ⟨hq0, hq1⟩ := hq
  obtain ⟨t1, ht1⟩ : ∃ t, t = min p q := ⟨_, rfl⟩
  obtain ⟨t2, ht2⟩ : ∃ t, t = max p q := ⟨_, rfl⟩
  obtain ⟨e1, he1⟩ : ∃ t, t = t2 - t1 := ⟨_, rfl⟩
  obtain ⟨e2, he2⟩ : ∃ t, t = 64 - t2 := ⟨_, rfl⟩
  obtain ⟨G0, G1, G2, U1, U2, D2, D1, g0, g1, g2, u1, u2, u3, d2, d1, d0⟩ := pieces_calls N t1 t2 hN (by omega) (by omega) (by omega)
  rw [← he1] at g1 u2 d1
  rw [← he2] at g2 u3 d2
  have T1 := Lib.hid ht1
  have T2 := Lib.hid ht2
  have E1 := Lib.hid he1
  have E2 := Lib.hid he2
  clear ht1 ht2 he1 he2 w0 w1 w2
  have HH : p ≤ q ∨ q < p := by omega
  rcases HH with hle | hle
  all_goals
    go_enter Try.func6, Try.ntmps6
    go_wp2_with (first
      | (go_at_call 16; refine (wraps_ok _).mono ?_; rintro e w' ⟨rfl, rfl⟩))
  all_goals
    go_loopw [9, 10, 11] (fun up down i wr => ∃ k U D : Int, up = .int .u64 U ∧ down = .int .u64 D ∧ i = .int .i64 k ∧ (k = 0 ∧ U = 0 ∧ D = 0 ∨ k = 1 ∧ U = U1 ∧ D = D2 ∨ k = 2 ∧ U = U2 ∧ D = D1 ∨ k = 3 ∧ U = N ∧ D = N) ∧
        wr.cell? ⟨w.heap.size, 0, none⟩ = some (.int .i64 0) ∧ wr.cell? ⟨w.heap.size, 1, none⟩ = some (.int .i64 t1) ∧ wr.cell? ⟨w.heap.size, 2, none⟩ = some (.int .i64 t2) ∧
        wr.cell? ⟨w.heap.size + 1, 0, none⟩ = some (.int .i64 t1) ∧ wr.cell? ⟨w.heap.size + 1, 1, none⟩ = some (.int .i64 e1) ∧ wr.cell? ⟨w.heap.size + 1, 2, none⟩ = some (.int .i64 e2) ∧ Below w.heap.size w wr)
      (fun _ _ i _ => (3 - intOf i).toNat)
    case atStart =>
      have X1 := T1.out
      have X2 := T2.out
      have X3 := E1.out
      have X4 := E2.out
      refine ⟨0, 0, 0, rfl, rfl, rfl, .inl ⟨rfl, rfl, rfl⟩, ?_, ?_, ?_, ?_, ?_, ?_, ((Below.refl _ _).alloc (Nat.le_refl _) _).alloc (by simp) _⟩
      all_goals simp [go_sem]
      all_goals omega
    case round =>
      obtain ⟨k, U, D, rfl, rfl, rfl, hk, c1, c2, c3, c4, c5, c6, hnx⟩ := hrel
      rcases hk with ⟨rfl, rfl, rfl⟩ | ⟨rfl, rfl, rfl⟩ | ⟨rfl, rfl, rfl⟩ | ⟨rfl, rfl, rfl⟩
      · go_wp2
        go_quiet ((go_at_call 19; exact Calls.quiet_of_same (g0.use _)))
        go_wp2
        go_quiet ((go_at_call 19; exact quiet_behind (g2.use _)))
        go_wp2
        go_quiet ((go_at_call 21; exact quiet_behind (u1.use _)))
        go_wp2
        go_quiet ((go_at_call 21; exact quiet_behind (d2.use _)))
        go_wp2
        go_roundw
        case rel => exact ⟨_, _, _, rfl, rfl, rfl, .inr (.inl ⟨rfl, rfl, rfl⟩), c1, c2, c3, c4, c5, c6, below_drawn hnx _⟩
        case measure => simp [intOf]
      · go_wp2
        go_quiet ((go_at_call 19; exact Calls.quiet_of_same (g1.use _)))
        go_wp2
        go_quiet ((go_at_call 19; exact quiet_behind (g1.use _)))
        go_wp2
        go_quiet ((go_at_call 21; exact quiet_behind (u2.use _)))
        go_wp2
        go_quiet ((go_at_call 21; exact quiet_behind (d1.use _)))
        go_wp2
        go_roundw
        case rel => exact ⟨_, _, _, rfl, rfl, rfl, .inr (.inr (.inl ⟨rfl, rfl, rfl⟩)), c1, c2, c3, c4, c5, c6, below_drawn hnx _⟩
        case measure => simp [intOf]
      · go_wp2
        go_quiet ((go_at_call 19; exact Calls.quiet_of_same (g2.use _)))
        go_wp2
        go_quiet ((go_at_call 19; exact quiet_behind (g0.use _)))
        go_wp2
        go_quiet ((go_at_call 21; exact quiet_behind (u3.use _)))
        go_wp2
        go_quiet ((go_at_call 21; exact quiet_behind (d0.use _)))
        go_wp2
        go_roundw
        case rel => exact ⟨_, _, _, rfl, rfl, rfl, .inr (.inr (.inr ⟨rfl, rfl, rfl⟩)), c1, c2, c3, c4, c5, c6, below_drawn hnx _⟩
        case measure => simp [intOf]
      · go_wp2
        go_ret
        exact ⟨rfl, hnx⟩

set_option maxRecDepth 100000 in
theorem lifted (os : Os) (started : os.Started) (H : Type) (enc : TypeId × Value → H) :
    ReturnsInHanded {} Try.checked os 6 .any (Rows.convPiecesSpec.pre6 enc Try.prog Try.f6 Rows.convPiecesRow.domain false) (Rows.convPiecesSpec.post enc Try.prog Try.f6 false true false false) := by
  refine returnsInHanded_of_change (C := Try.checked) own started (by kernel_rfl) Try.func6
    (ChangeSpec.witness6 (enc := enc) (C := Try.checked) false ⟨#[], #[.int .u64 0, .int .i64 0, .int .i64 0], []⟩ 8 (by kernel_rfl) (by kernel_rfl) (by kernel_rfl) (by kernel_rfl)) ?_
  intro W base args ds gs before hval0 hW hcnd _
  have hval : ∀ (j : Nat) t v, Try.f6.params[j]? = some t → args[j]? = some v → Value.okWide Try.prog W .any base t v := hval0
  have hW' := hW
  obtain ⟨p, q, hA0, hV, rfl, hfz, hnd⟩ := hW
  have hA : DataW.TrodAll enc Try.prog W 0 (fun _ => true) true Try.f6.params.toList args.toList ds p := hA0
  rw [Try.params6] at hA hval
  obtain ⟨v0, vs0, d0, ds0, p0, q0, hargs, rfl, rfl, h0, r0⟩ := trodAll_cons hA
  obtain ⟨v1, vs1, d1, ds1, p1, q1, rfl, rfl, rfl, h1, r1⟩ := trodAll_cons r0
  obtain ⟨v2, vs2, d2, ds2, p2, q2, rfl, rfl, rfl, h2, r2⟩ := trodAll_cons r1
  obtain ⟨rfl, rfl, rfl⟩ := trodAll_nil r2
  obtain rfl : args = #[v0, v1, v2] := by cases args; simp_all
  obtain ⟨rfl, rfl⟩ := trodVars_none hV
  obtain ⟨a0, rfl, rfl, rfl, w0⟩ := open_int Try.underlying27 (hval 0 27 v0 rfl rfl) h0
  obtain ⟨a1, rfl, rfl, rfl, w1⟩ := open_int Try.underlying3 (hval 1 3 v1 rfl rfl) h1
  obtain ⟨a2, rfl, rfl, rfl, w2⟩ := open_int Try.underlying3 (hval 2 3 v2 rfl rfl) h2
  clear hA0 hval0
  simp only [List.append_nil] at hW'
  refine (walk a0 a1 a2 w0 w1 w2 W).mono fun e W' ⟨he, hg⟩ => ?_
  subst he
  exact ⟨_, rfl, _, _, _, [], [], [], hW', (trodAll_cons_mk (shut_bool Try.underlying4 _) trodAll_mk0), (trodAll_cons_mk (shut_int Try.underlying27 w0) (trodAll_cons_mk (shut_int Try.underlying3 w1) (trodAll_cons_mk (shut_int Try.underlying3 w2) trodAll_mk0))), rfl, hg.frame _, fun h => by cases h⟩

theorem over : Rows.convPiecesRow.holds Try.pinned (OpenSpec.ofChange Rows.convPiecesSpec) :=
  OpenClaim.holds_of_wide 6 Try.f6 rfl rfl rfl rfl rfl rfl rfl ⟨rfl, rfl, rfl, rfl, rfl⟩ rfl rfl rfl rfl rfl (by kernel_rfl) Try.func6 (by kernel_rfl)
    (of_decide_eq_true (by kernel_rfl)) (by unfold Func.isWrapper; first | (rw [if_pos (by decide +kernel)]; kernel_rfl) | (rw [if_neg (by decide +kernel)]; exact ⟨rfl, rfl⟩))
    (fun os started H enc _ => lifted os started H enc)

theorem proved : Rows.ConvPiecesSaid :=
  over
#print axioms proved
end Go.Proofs.Ytdoaepopkdeonaa.convPieces
