/-
  Merge: the walk of MergeOver.
-/
import Derived.Test.YtcgkpgjjifggcaaN46
import Derived.Test.YtcgkpgjjifggcaaN42
import Derived.Test.YtcgkpgjjifggcaaN32
namespace Go.Proofs.Ytcgkpgjjifggcaa
set_option linter.unusedVariables false
set_option linter.unusedSimpArgs false
open Go.RowKit Sl

theorem overP_last (l : List PairR) (h : Pl.Srt PairR.key bl l) (ops : List OpR) : overP l (lastP ops) = overP l ops := by
  classical
  exact Pl.over_last bl PairR.key OpR.key putP bl_ord putP_key putP_len l h ops

set_option maxRecDepth 100000 in
set_option maxHeartbeats 12800000 in
theorem over_walk (v : Value) (l : List CellR) (S : Nat → Prop) (vo : Value) (ops : List OpR) (S' : Nat → Prop) (w : World) (h : CV w S v l) (ho : SlV OpR.cells w S' vo ops) :
    Calls Try.prog 7 #[v, vo] w fun e w' => e = .returned (.bool true) ∧ Below w.heap.size w w' := by
  obtain ⟨ao, co, hv⟩ := ho.shape
  obtain ⟨no, hno⟩ : ∃ no, ops.length = no := ⟨_, rfl⟩
  rw [hno] at hv
  subst hv
  obtain ⟨-, ho2, ho3⟩ := SlV.len ho
  unfold maxLen at ho3
  have HB := Lib.hid (blends_ok w)
  have HSO := Lib.hid (keeps_sort v l S w h)
  have HPL : Hid (∀ k, k ≤ no → k ≤ 100 → ∀ W, Below w.heap.size w W → Calls Try.prog 23 #[.slice ao k co] W fun e w' => ∃ a c D, e = .returned (.slice a k c) ∧ D.length = k ∧ Has w' W.heap.size 3 (.slice a k c) k (flat OpR.cells D) ∧ Below W.heap.size W w') := Lib.hid (fun k hk hk2 W hW =>
    plain_ok _ (ops.take k) S' W (SlV.cutHi OpR.cells_len (ho.below hW) k hk _ rfl) k (by rw [List.length_take, hno]; omega) (by omega))
  clear h ho hno
  go_enter Try.func7, Try.ntmps7
  go_wp2_with fail
  refine (HB.out).mono ?_
  rintro e w1 ⟨rfl, hb1⟩
  have HB1 := Lib.hid hb1
  clear hb1 HB
  go_wp2_with fail
  all_goals
    refine (HSO.out _ HB1.out).mono ?_
    rintro e w2 ⟨a, n, c, D, rfl, hs, hn, hn60, hcv, hb2⟩
    have HB2 := Lib.hid hb2
    obtain ⟨V, hV⟩ : ∃ V, viewP 1152921504606846976 D = V := ⟨_, rfl⟩
    obtain ⟨m, hm⟩ : ∃ m, V.length = m := ⟨_, rfl⟩
    have hm60 : m ≤ 60 := by
      have h1 := view_len 1152921504606846976 D none
      rw [show Pl.viewGo ckey (lowB 1152921504606846976) tellP Option.none D = V from hV, hm, hn] at h1
      omega
    have HVW : Hid (Calls Try.prog 19 #[.slice a n c, .int .i64 1152921504606846976] w2 (PairsPost V m w2)) := Lib.hid (view_ok _ D _ 1152921504606846976 w2 hcv (by rw [hn]; omega) V m hV hm)
    have HVS : Hid (Pl.Srt PairR.key bl V) := Lib.hid (hV ▸ view_srt 1152921504606846976 D hs)
    have HM := Lib.hid hm
    clear hs hn hcv hb2 hV hm HSO HB1
    go_wp2_with fail
    refine (HVW.out).mono ?_
    rintro e w3 ⟨a3, c3, rfl, hh3, hb3⟩
    have HV3 : Hid (SlV PairR.cells w3 (fun _ => False) (.slice a3 m c3) V) := Lib.hid (by
      have h1 := hh3
      rw [← HM.out] at h1 ⊢
      exact (SlV.of_has h1).mono (fun _ h => h.elim))
    have HB3 := Lib.hid (HB2.out.trans (hb3.mono HB2.out.size))
    clear hh3 hb3 HVW HB2
    go_wp2_with fail
    refine (HPL.out _ (by omega) (by omega) _ HB3.out).mono ?_
    rintro e w4 ⟨a4, c4, O, rfl, hol, hh4, hb4⟩
    have HO4 : Hid (SlV OpR.cells w4 (fun _ => False) (.slice a4 O.length c4) O) := Lib.hid (by
      have h1 := hh4
      rw [← hol] at h1
      exact (SlV.of_has h1).mono (fun _ h => h.elim))
    rw [hol] at HO4
    have hO100 : O.length ≤ 100 := by omega
    have HO100 := Lib.hid hO100
    have HV4 := Lib.hid (HV3.out.below hb4)
    have HB4 := Lib.hid (HB3.out.trans (hb4.mono HB3.out.size))
    obtain ⟨R, hR⟩ : ∃ R, overP V O = R := ⟨_, rfl⟩
    obtain ⟨r, hr⟩ : ∃ r, R.length = r := ⟨_, rfl⟩
    have HOV := Lib.hid (over_ok _ V _ _ O _ w4 HV4.out HO4.out HVS.out (by rw [HM.out]; omega) R r hR hr)
    have HR := Lib.hid hR
    have HRL := Lib.hid hr
    have HRS : Hid (Pl.Srt PairR.key bl R) := Lib.hid (hR ▸ overP_srt V HVS.out O)
    clear hol hh4 hb4 HPL HV3 HB3 hO100 hR hr
    go_wp2_with fail
    refine (HOV.out).mono ?_
    rintro e w5 ⟨a5, c5, rfl, ho5, hb5⟩
    have HV5 : Hid (SlV PairR.cells w5 (fun _ => False) (.slice a5 r c5) R) := Lib.hid (ho5.sl.mono (fun _ h => h.elim))
    have HVV5 := Lib.hid (HV4.out.below hb5)
    have HO5 := Lib.hid (HO4.out.below hb5)
    have HB5 := Lib.hid (HB4.out.trans (hb5.mono HB4.out.size))
    obtain ⟨-, hrc, hrm⟩ := SlV.len HV5.out
    unfold maxLen at hrm
    have HDL := Lib.hid (docLast_ok _ O _ w5 HO5.out _ (SlV.len HO5.out).1 (by have h1 := (SlV.len HO5.out).1; have h2 := HO100.out; omega))
    clear ho5 hb5 HOV HV4 HB4 HO4
    go_wp2_with fail
    refine (HDL.out).mono ?_
    rintro e w6 ⟨a6, c6, m6, rfl, hm6, hmn, hh6, hb6⟩
    have HO6 : Hid (SlV OpR.cells w6 (fun _ => False) (.slice a6 m6 c6) (lastP O)) := Lib.hid (by
      rw [← hm6] at hh6 ⊢
      exact (SlV.of_has hh6).mono (fun _ h => h.elim))
    have HV6 := Lib.hid (HV5.out.below hb6)
    have HVV6 := Lib.hid (HVV5.out.below hb6)
    have HO56 := Lib.hid (HO5.out.below hb6)
    have HB6 := Lib.hid (HB5.out.trans (hb6.mono HB5.out.size))
    have HOV2 := Lib.hid (over_ok _ V _ _ (lastP O) _ w6 HVV6.out HO6.out HVS.out (by have h2 := HO100.out; have h3 := (SlV.len HO5.out).1; rw [HM.out, hm6]; omega) R r (by rw [overP_last V HVS.out O, HR.out]) HRL.out)
    clear hm6 hmn hh6 hb6 HDL HV5 HVV5 HO5 HB5
    go_wp2_with fail
    refine (HOV2.out).mono ?_
    rintro e w7 ⟨a7, c7, rfl, ho7, hb7⟩
    have HV7 := Lib.hid (HV6.out.below hb7)
    have HVV7 := Lib.hid (HVV6.out.below hb7)
    have HO7 := Lib.hid (HO56.out.below hb7)
    have HW7 : Hid (SlV PairR.cells w7 (fun _ => False) (.slice a7 r c7) R) := Lib.hid (ho7.sl.mono (fun _ h => h.elim))
    have HB7 := Lib.hid (HB6.out.trans (hb7.mono HB6.out.size))
    clear ho7 hb7 HOV2 HV6 HVV6 HO56 HO6 HB6
    go_wp2_with fail
    go_loopg [8] r (fun g s8 wi => ∃ (j d : Nat), g = r - j ∧ s8 = .int .i64 ((j : Int) + 1) ∧ j ≤ r ∧ wi = w7.drewN d)
    case atStart => exact ⟨0, 0, by omega, by simp, Nat.zero_le _, rfl⟩
    case round =>
      obtain ⟨j, dn, rfl, rfl, hjp, hwi⟩ := hrel
      subst hwi
      by_cases hj : j + 1 < r
      · have hjI : (j : Int) + 1 < r := by omega
        obtain ⟨bb, o, rfl, -, hbl, hps⟩ := PV.of HV7.out (by omega)
        obtain ⟨x, hx⟩ := get_of (l := R) (k := j) (by have := HRL.out; omega)
        obtain ⟨y, hy⟩ := get_of (l := R) (k := j + 1) (by have := HRL.out; omega)
        obtain ⟨x1, x2⟩ := hps j x hx
        obtain ⟨y1, y2⟩ := hps (j + 1) y hy
        have hlt9 : bl x.key y.key = true := adj_srt PairR.key bl R HRS.out j x y hx hy
        have hle : Op.bytesLess x.key.toList y.key.toList = true := hlt9
        have e1 : IntKind.i64.wrap ((j : Int) + 1 - 1) = j := by rw [Int.add_sub_cancel]; exact IntWalk.i64_in _ (by omega)
        have b1 : (0 : Int) ≤ (j : Int) := by omega
        have b2 : (j : Int) < r := by omega
        have b3 : ((j : Int) + 1).toNat = j + 1 := by omega
        have b4 : (0 : Int) ≤ (j : Int) + 1 := by omega
        clear hps hx hy hlt9
        go_wp2_with fail
        go_quiet (fail)
        clear e1 b3
        go_wp2
        go_roundg (r - (j + 1))
        case measure => omega
        case rel => exact ⟨j + 1, _, rfl, by go_num, by omega, rfl⟩
      · have hge2 : decide ((j : Int) + 1 < r) = false := by simp; omega
        have HBD := Lib.hid (below_dn (Below.refl w7.heap.size w7) dn)
        have HB8 := Lib.hid (below_dn HB7.out dn)
        have HDO := Lib.hid (docOver_ok _ V _ _ O _ (w7.drewN dn) (HVV7.out.below HBD.out) (HO7.out.below HBD.out) HVS.out (by have h1 := HM.out; omega) (by have h1 := HO100.out; omega) R r HR.out HRL.out)
        go_wp2_with fail
        refine (HDO.out).mono ?_
        rintro e w8 ⟨a8, c8, rfl, hh8, hb8⟩
        have HD8 : Hid (SlV PairR.cells w8 (fun _ => False) (.slice a8 r c8) R) := Lib.hid (by rw [← HRL.out] at hh8 ⊢; exact (SlV.of_has hh8).mono (fun _ h => h.elim))
        have HV8 := Lib.hid ((HV7.out.below HBD.out).below hb8)
        have HW8 := Lib.hid ((HW7.out.below HBD.out).below hb8)
        have HB9 := Lib.hid (HB8.out.trans (hb8.mono HB8.out.size))
        clear hh8 hb8 HDO
        go_wp2_with fail
        refine (pairs_eq _ _ R _ _ _ HV8.out HD8.out).mono ?_
        rintro e w9 ⟨rfl, hb9⟩
        have HV9 := Lib.hid (HV8.out.below hb9)
        have HW9 := Lib.hid (HW8.out.below hb9)
        have HBa := Lib.hid (HB9.out.trans (hb9.mono HB9.out.size))
        clear hb9
        go_wp2_with fail
        refine (pairs_eq _ _ R _ _ _ HW9.out HV9.out).mono ?_
        rintro e wa ⟨rfl, hba⟩
        have HBb := Lib.hid (HBa.out.trans (hba.mono HBa.out.size))
        clear hba
        go_wp2
        go_ret
        exact ⟨rfl, HBb.out⟩
end Go.Proofs.Ytcgkpgjjifggcaa
