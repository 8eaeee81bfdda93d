/-
  Merge: contract of the merger's Left.
-/
import Derived.Test.YtcgkpgjjifggcaaN12
namespace Go.Proofs.Ytcgkpgjjifggcaa
set_option linter.unusedVariables false
set_option linter.unusedSimpArgs false
open Go.RowKit Sl

def lens (H : List RunR) (k : Nat) : Nat := ((H.take k).map (fun r => r.1.length)).sum
theorem lens_zero (H : List RunR) : lens H 0 = 0 := by simp [lens]
theorem lens_succ (H : List RunR) (k : Nat) (r : RunR) (h : H[k]? = some r) : lens H (k + 1) = lens H k + r.1.length := by
  obtain ⟨h1, rfl⟩ := List.getElem?_eq_some_iff.1 h
  unfold lens
  rw [List.take_succ_eq_append_getElem h1, List.map_append, List.sum_append]
  simp
theorem lens_all (H : List RunR) (k : Nat) (h : H.length ≤ k) : lens H k = (H.map (fun r => r.1.length)).sum := by unfold lens; rw [List.take_of_length_le h]
theorem lens_le (H : List RunR) (k : Nat) : lens H k ≤ (H.map (fun r => r.1.length)).sum := by
  unfold lens
  conv => rhs; rw [← List.take_append_drop k H]
  rw [List.map_append, List.sum_append]; omega

set_option maxHeartbeats 800000 in
theorem left_nil (w : World) : Calls Try.prog 16 #[.pointer none] w fun e w' => e = .returned (.int .i64 0) ∧ w = w' := by
  go_enter Try.func16, Try.ntmps16
  go_wp2
  go_ret
  exact ⟨rfl, rfl⟩
theorem ret_i {k : IntKind} {a b : Int} (h : a = b) : Ending.returned (.int k a) = .returned (.int k b) := by rw [h]

set_option maxHeartbeats 1600000 in
theorem left_ok (w : World) (M B E : Nat) (T : List (CellR × Nat)) (h : Mg w M B E T) (hbig : T.length ≤ 1000000) :
    Calls Try.prog 16 #[.pointer (some ⟨M, 0, none⟩)] w fun e w' => e = .returned (.int .i64 T.length) ∧ Below w.heap.size w w' := by
  obtain ⟨h1, h2, h3, hf, h4⟩ := h
  rcases h4 with ⟨rfl, ht⟩ | ⟨g, cap, H, a, b, hp, d1, e, f, hs, hHbig⟩
  · go_enter Try.func16, Try.ntmps16
    go_wp2
    refine wp_loop_rounds 1 ?_
    rw [rounds_succ]
    go_wp2
    go_ret
    exact ⟨rfl, Below.refl _ _⟩
  · have hT : T.length = (H.map (fun r => r.1.length)).sum := by rw [f.2.length_eq, Pl.cellsOf_len]
    obtain ⟨K, hK⟩ : ∃ K, H.length = K := ⟨_, rfl⟩
    have ht := hp.top
    rw [hK] at ht hHbig
    have hcle := hp.le
    have hmax := hp.max
    unfold maxLen at hmax
    rw [hK] at hcle
    have HP := Lib.hid hp
    have HK := Lib.hid hK
    have HTL := Lib.hid hT
    have HLS := Lib.hid (lens_zero H)
    have hle := fun k => lens_le H k
    have hle2 : ∀ k, lens H k ≤ 1000000 := fun k => by have := hle k; omega
    have HLE := Lib.hid hle2
    clear hp hK hT hle hle2 f d1 e hs hf
    go_enter Try.func16, Try.ntmps16
    go_wp2
    go_loopw [3, 13] (fun s i wr => ∃ k : Nat, i = .int .i64 k ∧ k ≤ K ∧ (∃ t : Nat, t ≤ 1000000 ∧ s = .int .i64 t ∧ Hid (lens H k = t)) ∧ Hid (Below w.heap.size w wr))
      (fun _ i _ => K - (intOf i).toNat)
    case atStart => exact ⟨0, rfl, Nat.zero_le _, ⟨0, Nat.zero_le _, rfl, HLS⟩, Lib.hid (Below.refl _ _)⟩
    case round =>
      obtain ⟨k, rfl, hk, ⟨t, ht2, rfl, HT⟩, HW⟩ := hrel
      by_cases hlt : k < K
      · have hlt2 : (k : Int) < K := by omega
        have hkl : k < H.length := by rw [HK.out]; exact hlt
        obtain ⟨v, x1, x2, x3⟩ := HP.out.els.el k hkl
        obtain ⟨ak, ck, hv, hck, hck2, -⟩ := x3
        obtain ⟨m, hm⟩ : ∃ m, H[k].1.length = m := ⟨_, rfl⟩
        obtain ⟨q, hq⟩ : ∃ q, H[k].2 = q := ⟨_, rfl⟩
        rw [hm] at hv hck
        rw [hq] at x2
        subst hv
        have hgl := HP.out.els.lt
        have HS := Lib.hid (lens_succ H k H[k] (by simp [hkl]))
        have HM := Lib.hid hm
        have hmle : m ≤ 1000000 := by have := HLE.out (k + 1); rw [HS.out, hm] at this; omega
        have hsum : t + m ≤ 1000000 := by have := HLE.out (k + 1); rw [HS.out, hm, HT.out] at this; omega
        have y1 := (HW.out.cell (p := ⟨g, k * 2, none⟩) hgl).trans x1
        have y2 := (HW.out.cell (p := ⟨g, k * 2 + 1, none⟩) hgl).trans x2
        clear x1 x2 hm hq
        go_wp2
        go_roundw
        case rel => exact ⟨k + 1, by go_num, by omega, ⟨t + m, hsum, by go_num, Lib.hid (by rw [HS.out, HT.out, HM.out])⟩, Lib.hid (HW.out.alloc HW.out.size _)⟩
        case measure => simp [intOf]; omega
      · have hge : decide ((k : Int) < K) = false := by simp; omega
        go_wp2
        go_ret
        refine ⟨ret_i ?_, HW.out⟩
        rw [HTL.out, ← lens_all H k (by rw [HK.out]; omega), HT.out]
end Go.Proofs.Ytcgkpgjjifggcaa
