/-
  Merge: contracts of container/heap's up (of the first), Fix, Init, Pop at runs; of runs' Pop.
-/
import Derived.Test.YtcgkpgjjifggcaaN4
namespace Go.Proofs.Ytcgkpgjjifggcaa
set_option linter.unusedVariables false
set_option linter.unusedSimpArgs false
open Go.RowKit Sl

set_option maxHeartbeats 800000 in
theorem up_first (M : Nat) (w : World) : Calls Try.prog 47 #[hI M, .int .i64 0] w fun e w' => e = .returned (.tuple #[]) ∧ w = w' := by
  unfold hI
  go_enter Try.func47, Try.ntmps47
  go_wp2
  refine wp_loop_rounds 1 ?_
  rw [rounds_succ]
  go_wp2
  go_end0
  exact ⟨rfl, rfl⟩

set_option maxHeartbeats 1600000 in
theorem fix_ok (M g cap E : Nat) (H : List RunR) (w : World) (hp : Hp w M g cap E H) (hpos : 0 < H.length) (hH : Pl.HInv runLt 0 0 H.length H) (hF : Full H.length H) (hbig : H.length ≤ 1000000) :
    Calls Try.prog 42 #[hI M, .int .i64 0] w fun e w' => e = .returned (.tuple #[]) ∧ ∃ H', Hp w' M g cap E H' ∧ H'.Perm H ∧ Pl.HeapFrom runLt 0 H.length H' ∧ Full H.length H' ∧ Mod (· = g) w w' := by
  have HD := Lib.hid (down_ok M g cap E 0 H.length H w hp (Nat.le_refl _) (.inl hpos) hH hF hbig)
  have hU := Lib.hid (up_first M)
  have hm := meth_Len M _ _ _ w hp.top
  generalize H.length = N at *
  unfold hI at *
  clear hp hH hF
  go_enter Try.func42, Try.ntmps42
  go_wp2_with (go_at_call 68; refine (len_ok _ _ _ _).mono ?_; rintro e w' ⟨rfl, rfl⟩)
  refine (HD.out).mono ?_
  rintro e w1 ⟨b, H', rfl, hp', hperm, hheap, hfull, htail, hmod⟩
  have HQ := Lib.hid (And.intro hp' (And.intro hperm (And.intro hheap (And.intro hfull hmod))))
  clear hp' hperm hheap hfull htail hmod hm HD
  cases b with
  | true =>
    go_wp2
    go_end0
    exact ⟨rfl, H', HQ.out⟩
  | false =>
    go_wp2_with (go_at_call 47; refine (hU.out _).mono ?_; rintro e w' ⟨rfl, rfl⟩)
    go_end0
    exact ⟨rfl, H', HQ.out⟩

set_option maxHeartbeats 3200000 in
theorem init_ok (M g cap E : Nat) (H : List RunR) (w : World) (hp : Hp w M g cap E H) (hpos : 0 < H.length) (hF : Full H.length H) (hbig : H.length ≤ 1000000) :
    Calls Try.prog 30 #[hI M] w fun e w' => e = .returned (.tuple #[]) ∧ ∃ H', Hp w' M g cap E H' ∧ H'.Perm H ∧ Pl.HeapFrom runLt 0 H.length H' ∧ Full H.length H' ∧ Mod (· = g) w w' := by
  have hm := meth_Len M _ _ _ w hp.top
  obtain ⟨N, hN⟩ : ∃ N, H.length = N := ⟨_, rfl⟩
  have HN := Lib.hid hN
  have HP := Lib.hid hp
  have HF := Lib.hid hF
  rw [hN] at hm hbig HF hpos
  rw [hN]
  clear hN hp hF
  unfold hI
  go_enter Try.func30, Try.ntmps30
  go_wp2_with (go_at_call 68; refine (len_ok _ _ _ _).mono ?_; rintro e w' ⟨rfl, rfl⟩)
  clear hm
  go_loopw [3] (fun i wr => ∃ (x : Nat) (K : List RunR), i = .int .i64 ((x : Int) - 1) ∧ x ≤ N / 2 ∧ Hid (K.length = N) ∧ Hid (Hp wr M g cap E K) ∧ Hid (K.Perm H) ∧ Hid (Pl.HeapFrom runLt x N K) ∧ Hid (Full N K) ∧ Hid (Mod (· = g) w wr))
    (fun i _ => (intOf i + 1).toNat)
  case atStart => exact ⟨N / 2, H, by go_num, Nat.le_refl _, HN, HP, Lib.hid (List.Perm.refl _), Lib.hid (Pl.heap_half runLt N H), HF, Lib.hid (Mod.refl _ _)⟩
  case round =>
    obtain ⟨x, K, rfl, hx, HKN, HKP, HPE, HHE, HFU, HMO⟩ := hrel
    rcases Nat.eq_zero_or_pos x with h0 | h0
    · subst h0
      go_wp2
      go_end0
      exact ⟨rfl, K, HKP.out, HPE.out, HHE.out, HFU.out, HMO.out⟩
    · obtain ⟨y, rfl⟩ : ∃ y, x = y + 1 := ⟨x - 1, by omega⟩
      have y1 : (0 : Int) ≤ ((y + 1 : Nat) : Int) - 1 := by omega
      have HD := Lib.hid (down_ok M g cap E y N K wr HKP.out (by rw [HKN.out]; exact Nat.le_refl _) (.inl (by omega)) (Pl.hinv_start runLt y N K HHE.out) HFU.out (by rw [HKN.out]; exact hbig))
      have ey : ((y + 1 : Nat) : Int) - 1 = (y : Int) := by omega
      rw [ey]
      clear ey y1
      unfold hI at HD
      go_wp2_with fail
      refine (HD.out).mono ?_
      rintro e w1 ⟨b, K', rfl, hp', hperm, hheap, hfull, htail, hmod⟩
      have HQ := Lib.hid (And.intro hp' (And.intro hperm (And.intro hheap (And.intro hfull hmod))))
      clear hp' hperm hheap hfull htail hmod HD
      go_wp2
      go_roundw
      case rel => exact ⟨y, K', rfl, by omega, Lib.hid (HQ.out.2.1.length_eq.trans HKN.out), Lib.hid HQ.out.1, Lib.hid (HQ.out.2.1.trans HPE.out), Lib.hid HQ.out.2.2.1, Lib.hid HQ.out.2.2.2.1, Lib.hid (HMO.out.trans HQ.out.2.2.2.2)⟩
      case measure => first | (simp [intOf]; done) | (simp [intOf]; omega)
end Go.Proofs.Ytcgkpgjjifggcaa
