/-
  Records: contract of slices.IndexFunc and ContainsFunc with Check's closures; of Check.
-/
import Derived.Test.YtcgbellmclhlpaaR12
namespace Go.Proofs.Ytcgbellmclhlpaa
set_option linter.unusedVariables false
set_option linter.unusedSimpArgs false
open Go.RowKit Vi Sl

set_option maxHeartbeats 1600000 in
theorem index23_ok (g o cap : Nat) (l : List OpR) (hl : l.length ≤ 1000000) (w : World) (h1 : OpsAt w g o l) (hg : ∀ x ∈ l, x.fits) :
    Calls Try.prog 29 #[.slice (some ⟨g, o, none⟩) l.length cap, .func (.func 23) #[] #[]] w fun e w' => e = .returned (.int .i64 (-1)) ∧ Below w.heap.size w w' := by
  obtain ⟨n, hn⟩ : ∃ n, l.length = n := ⟨_, rfl⟩
  have HN := Lib.hid hn
  have H1 := Lib.hid h1
  have HG := Lib.hid hg
  rw [hn] at hl ⊢
  clear h1 hn hg
  go_enter Try.func29, Try.ntmps29
  go_wp2
  go_loopw [8] (fun i wr => ∃ k : Nat, k ≤ n ∧ i = .int .i64 k ∧ Below w.heap.size w wr) (fun i _ => n - (intOf i).toNat)
  case atStart => exact ⟨0, Nat.zero_le _, rfl, Below.refl _ _⟩
  case round =>
    obtain ⟨k, hk, rfl, hnx⟩ := hrel
    by_cases hkn : k < n
    · have hkl : k < l.length := by rw [HN.out]; exact hkn
      have e1 := H1.out.below hnx H1.out.1
      obtain ⟨c1, c2, c3⟩ := e1.2 k hkl
      have hg1 := e1.1
      have hp := HG.out _ (List.getElem_mem hkl)
      obtain ⟨xk, xs, xv, hx⟩ : ∃ a b c, l[k] = OpR.mk a b c := ⟨_, _, _, rfl⟩
      rw [hx] at c1 c2 c3 hp
      simp only at c1 c2 c3
      have HC := Lib.hid (long_ok xk xs xv hp.1 hp.2)
      have HNX := Lib.hid hnx
      clear hx e1 hnx hp
      go_wp2_with (first | (go_at_call 23; refine (HC.out _).mono ?_; rintro e w' ⟨rfl, hb⟩))
      go_roundw
      case rel => exact ⟨k + 1, by omega, by go_num, HNX.out.trans (hb.mono HNX.out.size)⟩
      case measure => simp [intOf]; omega
    · have : k = n := by omega
      subst this
      go_wp2
      go_ret
      exact ⟨rfl, hnx⟩

set_option maxHeartbeats 800000 in
theorem contains23_ok (g o cap : Nat) (l : List OpR) (hl : l.length ≤ 1000000) (w : World) (h1 : OpsAt w g o l) (hg : ∀ x ∈ l, x.fits) :
    Calls Try.prog 25 #[.slice (some ⟨g, o, none⟩) l.length cap, .func (.func 23) #[] #[]] w fun e w' => e = .returned (.bool false) ∧ Below w.heap.size w w' := by
  have HI := Lib.hid (index23_ok g o cap l hl w h1 hg)
  generalize l.length = n at *
  clear h1 hg
  go_enter Try.func25, Try.ntmps25
  go_wp2_with (first | (go_at_call 29; refine (HI.out).mono ?_; rintro e w' ⟨rfl, hb⟩))
  go_ret
  exact ⟨rfl, hb⟩

set_option maxHeartbeats 1600000 in
theorem index24_ok (g o cap : Nat) (l : List OpR) (hl : l.length ≤ 1000000) (w : World) (h1 : OpsAt w g o l) (hg : ∀ x ∈ l, x.formed) :
    Calls Try.prog 29 #[.slice (some ⟨g, o, none⟩) l.length cap, .func (.func 24) #[] #[]] w fun e w' => e = .returned (.int .i64 (-1)) ∧ Below w.heap.size w w' := by
  obtain ⟨n, hn⟩ : ∃ n, l.length = n := ⟨_, rfl⟩
  have HN := Lib.hid hn
  have H1 := Lib.hid h1
  have HG := Lib.hid hg
  rw [hn] at hl ⊢
  clear h1 hn hg
  go_enter Try.func29, Try.ntmps29
  go_wp2
  go_loopw [8] (fun i wr => ∃ k : Nat, k ≤ n ∧ i = .int .i64 k ∧ Below w.heap.size w wr) (fun i _ => n - (intOf i).toNat)
  case atStart => exact ⟨0, Nat.zero_le _, rfl, Below.refl _ _⟩
  case round =>
    obtain ⟨k, hk, rfl, hnx⟩ := hrel
    by_cases hkn : k < n
    · have hkl : k < l.length := by rw [HN.out]; exact hkn
      have e1 := H1.out.below hnx H1.out.1
      obtain ⟨c1, c2, c3⟩ := e1.2 k hkl
      have hg1 := e1.1
      have hp := HG.out _ (List.getElem_mem hkl)
      obtain ⟨xk, xs, xv, hx⟩ : ∃ a b c, l[k] = OpR.mk a b c := ⟨_, _, _, rfl⟩
      rw [hx] at c1 c2 c3 hp
      simp only at c1 c2 c3
      have HC := Lib.hid (odd_ok xk xs xv hp.1 hp.2)
      have HNX := Lib.hid hnx
      clear hx e1 hnx hp
      go_wp2_with (first | (go_at_call 24; refine (HC.out _).mono ?_; rintro e w' ⟨rfl, hb⟩))
      go_roundw
      case rel => exact ⟨k + 1, by omega, by go_num, HNX.out.trans (hb.mono HNX.out.size)⟩
      case measure => simp [intOf]; omega
    · have : k = n := by omega
      subst this
      go_wp2
      go_ret
      exact ⟨rfl, hnx⟩

set_option maxHeartbeats 800000 in
theorem contains24_ok (g o cap : Nat) (l : List OpR) (hl : l.length ≤ 1000000) (w : World) (h1 : OpsAt w g o l) (hg : ∀ x ∈ l, x.formed) :
    Calls Try.prog 25 #[.slice (some ⟨g, o, none⟩) l.length cap, .func (.func 24) #[] #[]] w fun e w' => e = .returned (.bool false) ∧ Below w.heap.size w w' := by
  have HI := Lib.hid (index24_ok g o cap l hl w h1 hg)
  generalize l.length = n at *
  clear h1 hg
  go_enter Try.func25, Try.ntmps25
  go_wp2_with (first | (go_at_call 29; refine (HI.out).mono ?_; rintro e w' ⟨rfl, hb⟩))
  go_ret
  exact ⟨rfl, hb⟩

set_option maxHeartbeats 1600000 in
theorem check_ok (seq g o cap : Nat) (l : List OpR) (hg : Good seq l) (w : World) (h1 : OpsAt w g o l) :
    Calls Try.prog 13 #[.int .i64 seq, .slice (some ⟨g, o, none⟩) l.length cap] w fun e w' => e = .returned (.int .i64 0) ∧ Below w.heap.size w w' := by
  obtain ⟨g1, g2, g3, g4, g5⟩ := hg
  have HA := Lib.hid (contains23_ok g o cap l (by omega) w h1 (fun x hx => (g3 x hx).1))
  have HB := Lib.hid (fun w' (h : OpsAt w' g o l) => contains24_ok g o cap l (by omega) w' h (fun x hx => (g3 x hx).2))
  have H1 := Lib.hid h1
  generalize hn : l.length = n at *
  have i1 : decide ((200 : Int) < n) = false := by simp; omega
  have i2 : ((n : Int) == 0) = false := by simp; omega
  have i3 : decide ((seq : Int) < 1) = false := by simp; omega
  have i4 : decide (((72057594037927935 : Int) - n + 1) < seq) = false := by simp; omega
  clear h1 g3 hn
  go_enter Try.func13, Try.ntmps13
  go_wp2_with fail
  refine (HA.out).mono ?_
  rintro e w1 ⟨rfl, hb1⟩
  have h2 := Lib.hid (H1.out.below hb1 H1.out.1)
  have HB2 := Lib.hid (HB.out _ h2.out)
  clear h2
  go_wp2_with fail
  refine (HB2.out).mono ?_
  rintro e w2 ⟨rfl, hb2⟩
  go_wp2
  go_ret
  exact ⟨rfl, hb1.trans (hb2.mono hb1.size)⟩
end Go.Proofs.Ytcgbellmclhlpaa
