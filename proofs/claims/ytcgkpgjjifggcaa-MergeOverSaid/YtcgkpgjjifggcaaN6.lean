/-
  Merge: contracts of runs' Pop, of container/heap's Pop at runs, of the merger's take.
-/
import Derived.Test.YtcgkpgjjifggcaaN5
namespace Go.Proofs.Ytcgkpgjjifggcaa
set_option linter.unusedVariables false
set_option linter.unusedSimpArgs false
open Go.RowKit Sl

theorem Hp.cut {w w' : World} {M g cap E N : Nat} {D : List RunR} (h : Hp w M g cap E D) (hD : D.length = N + 1) (hw : Mod (· = M) w w') (ht : w'.cell? ⟨M, 0, none⟩ = some (.slice (some ⟨g, 0, none⟩) N cap)) (hf : w'.frozen? ⟨M, 0, none⟩ = false) : Hp w' M g cap E (D.take N) := by
  have hgM : ¬ g = M := fun e => h.ne e.symm
  have hmO : Mod (OwnE M g E) w w' := hw.mono (fun k hk => .inl (.inl hk))
  refine ⟨by rw [List.length_take, Nat.min_eq_left (by omega)]; exact ht, hf, h.ne, ⟨Nat.lt_of_lt_of_le h.els.lt hw.size, fun o => by rw [hw.frozen g o h.els.lt hgM]; exact h.els.free o, fun k hk => ?_⟩, by rw [List.length_take]; have := h.le; omega, h.max⟩
  have hk2 : k < D.length := by rw [List.length_take] at hk; omega
  obtain ⟨v, a, b, c⟩ := h.els.el k hk2
  refine ⟨v, by rw [hw.cell g _ h.els.lt hgM]; exact a, ?_, ?_⟩
  · rw [hw.cell g _ h.els.lt hgM]; simpa using b
  · have := c.mod hmO
    simpa using this
set_option maxHeartbeats 1600000 in
theorem popRuns_ok (M g cap E N : Nat) (D : List RunR) (w : World) (h : Hp w M g cap E D) (hD : D.length = N + 1) (hbig : N ≤ 1000000) :
    Calls Try.prog 71 #[.pointer (some ⟨M, 0, none⟩)] w fun e w' => (∃ v, e = .returned v) ∧ Hp w' M g cap E (D.take N) ∧ Mod (Own M g) w w' := by
  obtain ⟨v, a, b, ao, c, hv, hrest⟩ := h.els.el N (by omega)
  clear hrest
  have hcap := h.le
  have hmax := h.max
  unfold maxLen at hmax
  have ht := h.top
  have hf := h.topf
  have hne := World.new_ne w _ ht
  have hMl := h.lt
  have HH := Lib.hid h
  obtain ⟨p, hp⟩ : ∃ p, (D[N]'(by omega)).2 = p := ⟨_, rfl⟩
  obtain ⟨m, hm⟩ : ∃ m, (D[N]'(by omega)).1.length = m := ⟨_, rfl⟩
  rw [hp] at b
  rw [hm] at hv
  subst hv
  rw [hD] at ht hcap
  have hD2 := Lib.hid hD
  have y1 : (0 : Int) ≤ N := by omega
  have y2 : (N : Int) < (N : Int) + 1 := by omega
  have hgM := h.ne
  have hlg := h.els.lt
  clear h hp hm hD
  go_enter Try.func71, Try.ntmps71
  go_wp2
  go_ret
  have hM1 : Mod (· = M) w ((w.setCell ⟨M, 0, none⟩ (.slice (some ⟨g, 0, none⟩) N cap)).alloc (.cells #[.slice ao m c, .int .i64 p] 62)) := (mod_setCell w M 0 _).trans (Mod.of_below ((Below.refl _ _).alloc (Nat.le_refl _) _) (Nat.le_refl _))
  have hT : ((w.setCell ⟨M, 0, none⟩ (.slice (some ⟨g, 0, none⟩) N cap)).alloc (.cells #[.slice ao m c, .int .i64 p] 62)).cell? ⟨M, 0, none⟩ = some (.slice (some ⟨g, 0, none⟩) N cap) := (((Below.refl _ _).alloc (Nat.le_refl _) _).cell (p := ⟨M, 0, none⟩) (by simpa using hMl)).trans (World.cell?_setCell_same _ _ _ ht)
  have hFr : ((w.setCell ⟨M, 0, none⟩ (.slice (some ⟨g, 0, none⟩) N cap)).alloc (.cells #[.slice ao m c, .int .i64 p] 62)).frozen? ⟨M, 0, none⟩ = false := (((Below.refl _ _).alloc (Nat.le_refl _) _).frozen (p := ⟨M, 0, none⟩) (by simpa using hMl)).trans (by simpa using hf)
  exact ⟨⟨_, rfl⟩, HH.out.cut hD2.out hM1 hT hFr, hM1.mono (fun k hk => .inl hk)⟩

set_option maxHeartbeats 1600000 in
theorem heapPop_ok (M g cap E N : Nat) (H : List RunR) (w : World) (hp : Hp w M g cap E H) (hN : H.length = N + 1) (hH : Pl.HInv runLt 0 0 (N + 1) H) (hF : ∀ k r, 0 < k → H[k]? = some r → r.1 ≠ []) (hbig : H.length ≤ 1000000) :
    Calls Try.prog 41 #[hI M] w fun e w' => (∃ v, e = .returned v) ∧ ∃ H', Hp w' M g cap E H' ∧ H'.length = N ∧ (H'.Perm H.tail) ∧ Pl.HeapFrom runLt 0 N H' ∧ Full N H' ∧ Mod (Own M g) w w' := by
  have hm1 := meth_Len M _ _ _ w hp.top
  have hm2 := meth_Swap M _ _ _ w hp.top
  have HSW := Lib.hid (fun (a b : Int) (n : Nat) (ha : a = (0 : Nat)) (hb : b = N) (hn : H.length = n) => swap_int a b M g cap E 0 N H n w ha hb hn hp (Nat.zero_le _) (by omega))
  have hlk := Pl.sw_len H 0 N
  have hK0 : Pl.HInv runLt 0 0 N (Pl.sw H 0 N) := by
    refine ⟨fun k a b h1 h2 h3 h4 h5 h6 => hH.1 k a b (by omega) h2 h3 h4 (by rw [← Pl.sw_other H 0 N k (by omega) (by omega)]; exact h5) (by rw [← Pl.sw_other H 0 N _ h4 (by omega)]; exact h6), .inl rfl⟩
  have hFK : Full N (Pl.sw H 0 N) := by
    intro k r hk hr
    by_cases h0 : k = 0
    · subst h0
      rw [Pl.sw_left H 0 N (by omega) (by omega)] at hr
      exact hF N r hk hr
    · rw [Pl.sw_other H 0 N k h0 (by omega)] at hr
      exact hF k r (by omega) hr
  have HDN := Lib.hid (fun w' (h : Hp w' M g cap E (Pl.sw H 0 N)) => down_ok M g cap E 0 N (Pl.sw H 0 N) w' h (by omega) (by omega) hK0 hFK (by omega))
  have hroot : (Pl.sw H 0 N)[N]? = H[0]? := Pl.sw_right H 0 N (by omega) (by omega)
  have HFIN : Hid (∀ D : List RunR, D.Perm (Pl.sw H 0 N) → (∀ k, N ≤ k → D[k]? = (Pl.sw H 0 N)[k]?) → D.length = N + 1 ∧ (D.take N).Perm H.tail) := Lib.hid (fun D hD ht => by
    have hl : D.length = N + 1 := by rw [hD.length_eq, hlk, hN]
    refine ⟨hl, ?_⟩
    have h1 := ht N (Nat.le_refl _)
    rw [hroot] at h1
    cases H with
    | nil => simp at hN
    | cons r T =>
      have h2 : D[N]? = some r := h1
      have h3 : D = D.take N ++ [r] := by
        conv => lhs; rw [← List.take_append_drop N D]
        congr 1
        rw [List.drop_eq_getElem_cons (by omega)]
        rw [List.getElem?_eq_getElem (by omega)] at h2
        rw [Option.some.inj h2, List.drop_of_length_le (by omega)]
      have h4 : (D.take N ++ [r]).Perm (r :: T) := by rw [← h3]; exact hD.trans (Pl.sw_perm (r :: T) 0 N)
      have h5 : (r :: D.take N).Perm (r :: T) := (List.perm_append_singleton r (D.take N)).symm.trans h4
      exact (List.perm_cons r).1 h5)
  obtain ⟨n, hn⟩ : ∃ n, H.length = n := ⟨_, rfl⟩
  have HNN := Lib.hid hn
  have hnN : (n : Int) - 1 = N := by omega
  have HNI := Lib.hid hnN
  rw [hn] at hm1 hm2
  have hn1 : n ≤ 1000000 := by omega
  have hN1 : N ≤ 1000000 := by omega
  have hn2 : 1 ≤ n := by omega
  clear hK0 hFK hroot hlk hH hF hp hnN hN hbig
  unfold hI
  go_enter Try.func41, Try.ntmps41
  go_wp2_with (go_at_call 68; refine (len_ok _ _ _ _).mono ?_; rintro e w' ⟨rfl, rfl⟩)
  rw [HNI.out]
  refine (HSW.out _ _ _ rfl rfl HNN.out).mono ?_
  rintro e w1 ⟨rfl, hp1, hm⟩
  have HM1 := Lib.hid (hm.mono (T := Own M g) (fun k hk => .inr hk))
  clear hm1 hm2 hm
  have HD1 := Lib.hid (HDN.out w1 hp1)
  unfold hI at HD1
  clear hp1
  go_wp2_with fail
  refine (HD1.out).mono ?_
  rintro e w2 ⟨b, D, rfl, hp2, hperm, hheap, hfull, htail, hmod⟩
  obtain ⟨hl, hpt⟩ := HFIN.out D hperm htail
  have HM2 := Lib.hid (HM1.out.trans (hmod.mono (T := Own M g) (fun k hk => .inr hk)))
  have HPO := Lib.hid (popRuns_ok M g cap E N D w2 hp2 hl (by omega))
  have HPT := Lib.hid hpt
  have HHE := Lib.hid (Pl.heap_take runLt N D (D.take N) hheap (fun k hk => by rw [List.getElem?_take, if_pos hk]))
  have HFU : Hid (Full N (D.take N)) := Lib.hid (fun k r hk hr => hfull k r hk (by rw [List.getElem?_take, if_pos hk] at hr; exact hr))
  have HL : Hid ((D.take N).length = N) := Lib.hid (by rw [List.length_take]; omega)
  have hm3 := meth_Pop M w2
  clear hp2 hperm hheap hfull htail hmod hl hpt
  go_wp2_with (go_at_call 71; refine (HPO.out).mono ?_; rintro e w3 ⟨⟨v, rfl⟩, hp3, hm4⟩)
  go_ret
  exact ⟨⟨_, rfl⟩, D.take N, hp3, HL.out, HPT.out, HHE.out, HFU.out, HM2.out.trans hm4⟩
end Go.Proofs.Ytcgkpgjjifggcaa
