/-
  Merge: the law MergeGroups walked.
-/
import Derived.Test.YtcgkpgjjifggcaaN24
namespace Go.Proofs.Ytcgkpgjjifggcaa
set_option linter.unusedVariables false
set_option linter.unusedSimpArgs false
open Go.RowKit Sl

set_option maxHeartbeats 6400000 in
theorem groups_walk (v : Value) (l : List CellR) (S : Nat → Prop) (vw : Value) (xs : List Int) (S' : Nat → Prop) (cut : Int) (w : World) (h : CV w S v l) (hw : SlV intE w S' vw xs) :
    Calls Try.prog 3 #[v, vw, .int .i64 cut] w fun e w' => e = .returned (.bool true) ∧ Below w.heap.size w w' := by
  obtain ⟨ck, hck, hck7⟩ := split_k cut 7 (by omega) (by omega)
  have HB := Lib.hid (blends_ok w)
  have HSP : Hid (∀ W, Below w.heap.size w W → Calls Try.prog 10 #[v, vw, .int .i64 6] W fun e w2 => ∃ g D1 D2 D m1 m2 m, e = .returned (.slice (some ⟨g, 0, none⟩) 6 6) ∧ GroupsK w2 g ck D1 D2 D m1 m2 m ∧ Below w.heap.size w w2) := Lib.hid (fun W hW => (split_ok v l S vw xs S' 6 W (h.below hW) (hw.below hW) (by omega) (by omega)).mono (by
    rintro e w2 ⟨g, L, rfl, hL6, hso, hl60, hlv, hb2⟩
    obtain ⟨D1, D2, D, m1, m2, m, hk⟩ := groups_parts w2 g ck L hL6 hso hl60 (LV.mono hlv (fun _ h => h.elim)) (by omega)
    exact ⟨g, D1, D2, D, m1, m2, m, rfl, hk, hW.trans (hb2.mono hW.size)⟩))
  have e7 : ((7 : Nat) : Int) = 7 := rfl
  rw [e7] at hck
  clear h hw e7
  have hc0 : (0 : Int) ≤ (ck : Int) := by omega
  have hc6 : (ck : Int) ≤ 6 := by omega
  go_enter Try.func3, Try.ntmps3
  go_wp2_with fail
  refine (HB.out).mono ?_
  rintro e w1 ⟨rfl, hb1⟩
  have HB1 := Lib.hid hb1
  clear hb1 HB
  go_wp2_with fail
  refine (HSP.out _ HB1.out).mono ?_
  rintro e w2 ⟨g, D1, D2, D, m1, m2, m, rfl, hk, hb2⟩
  have HK := Lib.hid hk
  have HB2 := Lib.hid hb2
  clear hk hb2 HSP HB1
  go_wp2_with fail
  refine (HK.out.A1 _ (Below.refl _ _)).mono ?_
  rintro e w3 ⟨a1, c1, rfl, hcv1, hb3⟩
  have HC1 := Lib.hid hcv1
  have HB3 := Lib.hid hb3
  clear hcv1 hb3
  go_wp2_with fail
  all_goals
    refine (HK.out.A2 _ _ HB3.out (by first | exact .inl ⟨rfl, by assumption⟩ | exact .inr ⟨rfl, by assumption⟩)).mono ?_
    rintro e w4 ⟨a2, c2, rfl, hcv2, hb4⟩
    have H6 := Lib.hid h
    clear h
    have HB4 := Lib.hid (HB3.out.trans (hb4.mono HB3.out.size))
    have HC1 := Lib.hid (HC1.out.below hb4)
    have HC2 := Lib.hid hcv2
    clear hcv2 hb4
    go_wp2_with fail
    refine (HK.out.A3 _ _ _ _ _ HC1.out HC2.out).mono ?_
    rintro e w5 ⟨a3, c3, rfl, hcv3, hb5⟩
    have HB5 := Lib.hid (HB4.out.trans (hb5.mono HB4.out.size))
    have HC3 := Lib.hid hcv3
    clear hcv3 hb5 HC1 HC2
    go_wp2_with fail
    refine (HK.out.A4 _ _ HB5.out (by first | exact .inl rfl | exact .inr ⟨rfl, H6.out⟩)).mono ?_
    rintro e w6 ⟨a4, c4, rfl, hcv4, hb6⟩
    have HB6 := Lib.hid (HB5.out.trans (hb6.mono HB5.out.size))
    have HC3 := Lib.hid (HC3.out.below hb6)
    have HC4 := Lib.hid hcv4
    clear hcv4 hb6
    go_wp2_with fail
    refine (HK.out.A5 _ _ _ HC4.out).mono ?_
    rintro e w7 ⟨a5, c5, rfl, hcv5, hb7⟩
    have HB7 := Lib.hid (HB6.out.trans (hb7.mono HB6.out.size))
    have HC3 := Lib.hid (HC3.out.below hb7)
    have HC4 := Lib.hid (HC4.out.below hb7)
    have HC5 := Lib.hid hcv5
    clear hcv5 hb7
    go_wp2_with fail
    refine (HK.out.A6 _ _ _ _ _ HC3.out HC4.out).mono ?_
    rintro e w8 ⟨rfl, hb8⟩
    have HB8 := Lib.hid (HB7.out.trans (hb8.mono HB7.out.size))
    have HC5 := Lib.hid (HC5.out.below hb8)
    have HC4 := Lib.hid (HC4.out.below hb8)
    clear hb8
    go_wp2_with fail
    refine (HK.out.A6 _ _ _ _ _ HC5.out HC4.out).mono ?_
    rintro e w9 ⟨rfl, hb9⟩
    have HB9 := Lib.hid (HB8.out.trans (hb9.mono HB8.out.size))
    clear hb9
    go_wp2
    go_ret
    exact ⟨rfl, HB2.out.trans (HB9.out.mono HB2.out.size)⟩
end Go.Proofs.Ytcgkpgjjifggcaa
