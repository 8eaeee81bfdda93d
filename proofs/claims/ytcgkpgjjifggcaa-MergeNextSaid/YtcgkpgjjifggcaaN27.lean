/-
  Merge: the law MergeAll walked.
-/
import Derived.Test.YtcgkpgjjifggcaaN25
namespace Go.Proofs.Ytcgkpgjjifggcaa
set_option linter.unusedVariables false
set_option linter.unusedSimpArgs false
open Go.RowKit Sl

theorem docAll_uns (v : Value) (L : List (List CellR)) (S : Nat → Prop) (w : World) (h : LV w S v L) (hb : L.length ≤ 1000) (hbig : total L ≤ 1000000) (hs : ¬ Sorted L) :
    Calls Try.prog 13 #[v] w fun e w' => e = .returned (.tuple #[.slice none 0 0, .int .i64 2]) ∧ Below w.heap.size w w' :=
  (docAll_ok v L S w h hb hbig).mono (by
    rintro e w' (⟨h1, _, _⟩ | ⟨_, h1, h2, h3⟩ | ⟨_, h1, _⟩)
    · omega
    · exact ⟨h2, h3⟩
    · exact absurd h1 hs)
theorem all_uns (v : Value) (L : List (List CellR)) (S : Nat → Prop) (w : World) (h : LV w S v L) (hb : L.length ≤ 1000) (hbig : total L ≤ 1000000) (hs : ¬ Sorted L) :
    Calls Try.prog 11 #[v] w fun e w' => e = .returned (.tuple #[.slice none 0 0, .int .i64 2]) ∧ Below w.heap.size w w' :=
  (all_ok v L S w h hb hbig).mono (by
    rintro e w' (⟨h1, _, _⟩ | ⟨_, h1, h2, h3⟩ | ⟨_, h1, _⟩)
    · omega
    · exact ⟨h2, h3⟩
    · exact absurd h1 hs)
theorem new_uns (v : Value) (L : List (List CellR)) (S : Nat → Prop) (w : World) (h : LV w S v L) (hb : L.length ≤ 1000) (hbig : total L ≤ 1000000) (hs : ¬ Sorted L) :
    Calls Try.prog 14 #[v] w fun e w' => e = .returned (.tuple #[.pointer none, .int .i64 2]) ∧ Below w.heap.size w w' :=
  (new_ok v L S w h hb (fun l hl => Nat.le_trans (le_total L l hl) hbig)).mono (by
    rintro e w' (⟨h1, h2, h3⟩ | ⟨h1, _⟩)
    · exact ⟨h2, h3⟩
    · exact absurd h1 hs)
theorem docAllK (v : Value) (L : List (List CellR)) (S : Nat → Prop) (w : World) (h : LV w S v L) (hs : Sorted L) (hb : L.length ≤ 1000) (hbig : total L ≤ 1000000) (D : List CellR) (m : Nat) (hD : docA L = D) (hm : D.length = m) :
    Calls Try.prog 13 #[v] w (AllK D m w) := by
  subst hD hm
  refine (docAll_ok v L S w h hb hbig).mono ?_
  rintro e w' (⟨h1, _, _⟩ | ⟨_, h1, _, _⟩ | ⟨_, _, v', rfl, hh, hbb⟩)
  · omega
  · exact absurd hs h1
  · obtain ⟨a, c, rfl, -⟩ := hh.shape
    exact ⟨a, c, rfl, (SlV.of_has hh).mono (fun _ h => h.elim), hbb⟩
def NewK (L : List (List CellR)) (n : Nat) (w : World) (e : Ending) (w' : World) : Prop := ∃ M E T, e = .returned (.tuple #[.pointer (some ⟨M, 0, none⟩), .int .i64 0]) ∧ Mg w' M w.heap.size E T ∧ T.length = n ∧ Pl.dd CellR.ver T = docA L ∧ Below w.heap.size w w'
theorem newK (v : Value) (L : List (List CellR)) (S : Nat → Prop) (w : World) (h : LV w S v L) (hs : Sorted L) (hb : L.length ≤ 1000) (hbig : total L ≤ 1000000) (n : Nat) (hn : total L = n) :
    Calls Try.prog 14 #[v] w (NewK L n w) :=
  (new_ok v L S w h hb (fun l hl => Nat.le_trans (le_total L l hl) hbig)).mono (by
    rintro e w' (⟨h1, _, _⟩ | ⟨_, M, E, T, h2, h3, h4, h5⟩)
    · exact absurd hs h1
    · exact ⟨M, E, T, h2, h3, by rw [row_total L T h4, hn], Pl.dd_docAll CellR.ver verLt verLt_ord L hs T h4, h5⟩)
theorem total_take (L : List (List CellR)) (k : Nat) (l : List CellR) (h : L[k]? = some l) : total (L.take (k + 1)) = total (L.take k) + l.length := by
  obtain ⟨h1, rfl⟩ := List.getElem?_eq_some_iff.1 h
  unfold total
  rw [List.take_succ_eq_append_getElem h1, List.map_append, List.sum_append]
  simp
theorem total_take_le (L : List (List CellR)) (B : Nat) (h : ∀ l ∈ L, l.length ≤ B) (k : Nat) : total (L.take k) ≤ k * B := by
  have h1 := total_le (L.take k) B (fun l hl => h l (List.mem_of_mem_take hl))
  rw [List.length_take] at h1
  exact Nat.le_trans h1 (Nat.mul_le_mul_right _ (Nat.min_le_left _ _))

set_option maxRecDepth 100000 in
set_option maxHeartbeats 6400000 in
theorem allw_srt (v : Value) (L : List (List CellR)) (w : World) (h : LV w (fun _ => False) v L) (hreach : ∀ l ∈ L, l.length ≤ 2932031007317) (hb : L.length ≤ 1000) (hs : Sorted L) :
    Calls Try.prog 4 #[v] w fun e w' => e = .returned (.bool true) ∧ Below w.heap.size w w' := by
  have HSS := Lib.hid hs
  obtain ⟨ao, cap, hv⟩ := h.shape
  obtain ⟨n, hn⟩ : ∃ n, L.length = n := ⟨_, rfl⟩
  rw [hn] at hv
  subst hv
  obtain ⟨-, h2, h3⟩ := h.len
  unfold maxLen at h3
  have HV := Lib.hid h
  have HN := Lib.hid hn
  have HB := Lib.hid (fun W => blends_ok W)
  have hn1 : n ≤ 1000 := by omega
  have HR := Lib.hid (total_take_le L 2932031007317 hreach)
  clear h hn hreach hb hs
  go_enter Try.func4, Try.ntmps4
  go_wp2_with fail
  go_loopg [3, 4] n (fun g s3 s4 wr => ∃ k t : Nat, g = n - k ∧ s4 = .int .i64 k ∧ k ≤ n ∧ s3 = .int .i64 t ∧ t ≤ 2932031007317000 ∧ Hid (total (L.take k) = t) ∧ w = wr)
  case atStart => exact ⟨0, 0, by omega, rfl, Nat.zero_le _, rfl, Nat.zero_le _, Lib.hid rfl, rfl⟩
  case round =>
    obtain ⟨k, t, rfl, rfl, hk, rfl, ht, HT, rfl⟩ := hrel
    by_cases hlt : k < n
    · have hlt2 : (k : Int) < n := by omega
      have hk0 : (0 : Int) ≤ (k : Int) := by omega
      obtain ⟨bb, o, rfl, hS, hbl, hcs⟩ := LV.of HV.out (by omega)
      obtain ⟨l, hl⟩ := get_of (l := L) (k := k) (by have := HN.out; omega)
      obtain ⟨al, cl, hc, hcv⟩ := hcs k l hl
      have HTK := Lib.hid (total_take L k l hl)
      obtain ⟨m, hm⟩ : ∃ m, l.length = m := ⟨_, rfl⟩
      rw [hm] at hc HTK
      have hsum : t + m ≤ 2932031007317000 := by
        have h1 := HR.out (k + 1)
        rw [HTK.out, HT.out] at h1
        have h2 : (k + 1) * 2932031007317 ≤ 1000 * 2932031007317 := Nat.mul_le_mul_right _ (by omega)
        omega
      clear hcs hl hcv hm hS
      go_wp2
      go_roundg (n - (k + 1))
      case measure => omega
      case rel => exact ⟨k + 1, t + m, rfl, by go_num, by omega, by go_num, hsum, Lib.hid (by rw [HTK.out, HT.out]), rfl⟩
    · have hge : decide ((k : Int) < n) = false := by simp; omega
      have HTT : Hid (total L = t) := Lib.hid (by rw [← HT.out, List.take_of_length_le (by rw [HN.out]; omega)])
      by_cases h500 : 500 < t
      · have h5 : (500 : Int) < t := by omega
        go_wp2_with fail
        refine (HB.out _).mono ?_
        rintro e w1 ⟨rfl, hb1⟩
        go_wp2
        go_ret
        exact ⟨rfl, hb1⟩
      · have h5 : decide ((500 : Int) < t) = false := by simp; omega
        have HDK := Lib.hid (docAllK _ L _ w HV.out HSS.out (by rw [HN.out]; exact hn1) (by rw [HTT.out]; omega) _ _ rfl rfl)
        have HAK := Lib.hid (fun W (hW : Below w.heap.size w W) => allK _ L _ W (HV.out.below hW) HSS.out (by rw [HN.out]; exact hn1) (by rw [HTT.out]; omega) _ _ rfl rfl)
        have HNK := Lib.hid (fun W (hW : Below w.heap.size w W) => newK _ L _ W (HV.out.below hW) HSS.out (by rw [HN.out]; exact hn1) (by rw [HTT.out]; omega) t HTT.out)
        have HDS := Lib.hid (docA_srt L HSS.out)
        obtain ⟨D, hD⟩ : ∃ D, docA L = D := ⟨_, rfl⟩
        obtain ⟨m, hm⟩ : ∃ m, D.length = m := ⟨_, rfl⟩
        rw [hD] at HDK HAK HDS
        rw [hm] at HDK HAK
        clear hD hm
        go_wp2_with fail
        refine (HDK.out).mono ?_
        rintro e w1 ⟨a1, c1, rfl, hcv1, hb1⟩
        have HB1 := Lib.hid hb1
        have HC1 := Lib.hid hcv1
        clear hb1 hcv1 HDK
        go_wp2_with fail
        refine (HAK.out _ HB1.out).mono ?_
        rintro e w2 ⟨a2, c2, rfl, hcv2, hb2⟩
        have HB2 := Lib.hid (HB1.out.trans (hb2.mono HB1.out.size))
        have HC1 := Lib.hid (HC1.out.below hb2)
        have HC2 := Lib.hid hcv2
        clear hb2 hcv2 HAK
        go_wp2_with fail
        refine (HNK.out _ HB2.out).mono ?_
        rintro e w3 ⟨M, E, T, rfl, hmg, htl, -, hb3⟩
        have HB3 := Lib.hid (HB2.out.trans (hb3.mono HB2.out.size))
        have HC1 := Lib.hid (HC1.out.below hb3)
        have HC2 := Lib.hid (HC2.out.below hb3)
        have HMG := Lib.hid hmg
        have HTL := Lib.hid htl
        clear hb3 hmg htl HNK
        go_wp2_with fail
        refine (HB.out _).mono ?_
        rintro e w4 ⟨rfl, hb4⟩
        have HB4 := Lib.hid (HB3.out.trans (hb4.mono HB3.out.size))
        have HC1 := Lib.hid (HC1.out.below hb4)
        have HC2 := Lib.hid (HC2.out.below hb4)
        have HMG := Lib.hid (HMG.out.later (hb4.mono HMG.out.2.2.1))
        clear hb4
        go_wp2_with fail
        refine (cells_bel _ _ D (fun _ => False) (fun _ => False) _ HC1.out HC2.out).mono ?_
        rintro e w5 ⟨rfl, hb5⟩
        have HB5 := Lib.hid (HB4.out.trans (hb5.mono HB4.out.size))
        have HC2 := Lib.hid (HC2.out.below hb5)
        have HMG := Lib.hid (HMG.out.later (hb5.mono HMG.out.2.2.1))
        clear hb5
        go_wp2_with fail
        refine (docSorted_ok _ D _ _ HC2.out true (by simp [HDS.out])).mono ?_
        rintro e w6 ⟨rfl, hb6⟩
        have HB6 := Lib.hid (HB5.out.trans (hb6.mono HB5.out.size))
        have HMG := Lib.hid (HMG.out.later (hb6.mono HMG.out.2.2.1))
        have HLF := Lib.hid (left_ok w6 M _ E T HMG.out (by rw [HTL.out]; omega))
        rw [HTL.out] at HLF
        clear hb6
        go_wp2_with fail
        refine (HLF.out).mono ?_
        rintro e w7 ⟨rfl, hb7⟩
        have HB7 := Lib.hid (HB6.out.trans (hb7.mono HB6.out.size))
        clear hb7
        go_wp2
        go_ret
        exact ⟨rfl, HB7.out⟩

set_option maxRecDepth 100000 in
set_option maxHeartbeats 6400000 in
theorem allw_uns (v : Value) (L : List (List CellR)) (w : World) (h : LV w (fun _ => False) v L) (hreach : ∀ l ∈ L, l.length ≤ 2932031007317) (hb : L.length ≤ 1000) (hs : ¬ Sorted L) :
    Calls Try.prog 4 #[v] w fun e w' => e = .returned (.bool true) ∧ Below w.heap.size w w' := by
  have HSS := Lib.hid hs
  obtain ⟨ao, cap, hv⟩ := h.shape
  obtain ⟨n, hn⟩ : ∃ n, L.length = n := ⟨_, rfl⟩
  rw [hn] at hv
  subst hv
  obtain ⟨-, h2, h3⟩ := h.len
  unfold maxLen at h3
  have HV := Lib.hid h
  have HN := Lib.hid hn
  have HB := Lib.hid (fun W => blends_ok W)
  have hn1 : n ≤ 1000 := by omega
  have HR := Lib.hid (total_take_le L 2932031007317 hreach)
  clear h hn hreach hb hs
  go_enter Try.func4, Try.ntmps4
  go_wp2_with fail
  go_loopg [3, 4] n (fun g s3 s4 wr => ∃ k t : Nat, g = n - k ∧ s4 = .int .i64 k ∧ k ≤ n ∧ s3 = .int .i64 t ∧ t ≤ 2932031007317000 ∧ Hid (total (L.take k) = t) ∧ w = wr)
  case atStart => exact ⟨0, 0, by omega, rfl, Nat.zero_le _, rfl, Nat.zero_le _, Lib.hid rfl, rfl⟩
  case round =>
    obtain ⟨k, t, rfl, rfl, hk, rfl, ht, HT, rfl⟩ := hrel
    by_cases hlt : k < n
    · have hlt2 : (k : Int) < n := by omega
      have hk0 : (0 : Int) ≤ (k : Int) := by omega
      obtain ⟨bb, o, rfl, hS, hbl, hcs⟩ := LV.of HV.out (by omega)
      obtain ⟨l, hl⟩ := get_of (l := L) (k := k) (by have := HN.out; omega)
      obtain ⟨al, cl, hc, hcv⟩ := hcs k l hl
      have HTK := Lib.hid (total_take L k l hl)
      obtain ⟨m, hm⟩ : ∃ m, l.length = m := ⟨_, rfl⟩
      rw [hm] at hc HTK
      have hsum : t + m ≤ 2932031007317000 := by
        have h1 := HR.out (k + 1)
        rw [HTK.out, HT.out] at h1
        have h2 : (k + 1) * 2932031007317 ≤ 1000 * 2932031007317 := Nat.mul_le_mul_right _ (by omega)
        omega
      clear hcs hl hcv hm hS
      go_wp2
      go_roundg (n - (k + 1))
      case measure => omega
      case rel => exact ⟨k + 1, t + m, rfl, by go_num, by omega, by go_num, hsum, Lib.hid (by rw [HTK.out, HT.out]), rfl⟩
    · have hge : decide ((k : Int) < n) = false := by simp; omega
      have HTT : Hid (total L = t) := Lib.hid (by rw [← HT.out, List.take_of_length_le (by rw [HN.out]; omega)])
      by_cases h500 : 500 < t
      · have h5 : (500 : Int) < t := by omega
        go_wp2_with fail
        refine (HB.out _).mono ?_
        rintro e w1 ⟨rfl, hb1⟩
        go_wp2
        go_ret
        exact ⟨rfl, hb1⟩
      · have h5 : decide ((500 : Int) < t) = false := by simp; omega
        go_wp2_with fail
        refine (docAll_uns _ L _ w HV.out (by rw [HN.out]; exact hn1) (by rw [HTT.out]; omega) HSS.out).mono ?_
        rintro e w1 ⟨rfl, hb1⟩
        have HB1 := Lib.hid hb1
        clear hb1
        go_wp2_with fail
        refine (all_uns _ L _ _ (HV.out.below HB1.out) (by rw [HN.out]; exact hn1) (by rw [HTT.out]; omega) HSS.out).mono ?_
        rintro e w2 ⟨rfl, hb2⟩
        have HB2 := Lib.hid (HB1.out.trans (hb2.mono HB1.out.size))
        clear hb2
        go_wp2_with fail
        refine (new_uns _ L _ _ (HV.out.below HB2.out) (by rw [HN.out]; exact hn1) (by rw [HTT.out]; omega) HSS.out).mono ?_
        rintro e w3 ⟨rfl, hb3⟩
        have HB3 := Lib.hid (HB2.out.trans (hb3.mono HB2.out.size))
        clear hb3
        go_wp2_with fail
        refine (HB.out _).mono ?_
        rintro e w4 ⟨rfl, hb4⟩
        have HB4 := Lib.hid (HB3.out.trans (hb4.mono HB3.out.size))
        clear hb4
        go_wp2_with fail
        refine (cells_bel _ _ [] (fun _ => False) (fun _ => False) _ ⟨none, 0, rfl, Nat.le_refl _, Nat.zero_le _, .inl rfl⟩ ⟨none, 0, rfl, Nat.le_refl _, Nat.zero_le _, .inl rfl⟩).mono ?_
        rintro e w5 ⟨rfl, hb5⟩
        have HB5 := Lib.hid (HB4.out.trans (hb5.mono HB4.out.size))
        clear hb5
        go_wp2
        go_ret
        exact ⟨rfl, HB5.out⟩

theorem below_eq {w w' : World} (h : w = w') : Below w.heap.size w w' := h ▸ Below.refl _ _
set_option maxRecDepth 100000 in
set_option maxHeartbeats 6400000 in
theorem allw_big (v : Value) (L : List (List CellR)) (w : World) (h : LV w (fun _ => False) v L) (hreach : ∀ l ∈ L, l.length ≤ 2932031007317) (hbig : 1000 < L.length) :
    Calls Try.prog 4 #[v] w fun e w' => e = .returned (.bool true) ∧ Below w.heap.size w w' := by
  obtain ⟨ao, cap, hv⟩ := h.shape
  obtain ⟨n, hn⟩ : ∃ n, L.length = n := ⟨_, rfl⟩
  rw [hn] at hv
  subst hv
  obtain ⟨-, h2, h3⟩ := h.len
  unfold maxLen at h3
  have HV := Lib.hid h
  have HN := Lib.hid hn
  have HB := Lib.hid (fun W => blends_ok W)
  have HBIG := Lib.hid hbig
  clear h hn hreach hbig
  go_enter Try.func4, Try.ntmps4
  go_wp2_with fail
  go_loopg [3, 4] n (fun g s3 s4 wr => ∃ (k : Nat) (t : Int), g = n - k ∧ s4 = .int .i64 k ∧ k ≤ n ∧ s3 = .int .i64 t ∧ w = wr)
  case atStart => exact ⟨0, 0, by omega, rfl, Nat.zero_le _, rfl, rfl⟩
  case round =>
    obtain ⟨k, t, rfl, rfl, hk, rfl, rfl⟩ := hrel
    by_cases hlt : k < n
    · have hlt2 : (k : Int) < n := by omega
      have hk0 : (0 : Int) ≤ (k : Int) := by omega
      obtain ⟨bb, o, rfl, hS, hbl, hcs⟩ := LV.of HV.out (by omega)
      obtain ⟨l, hl⟩ := get_of (l := L) (k := k) (by have := HN.out; omega)
      obtain ⟨al, cl, hc, hcv⟩ := hcs k l hl
      obtain ⟨m, hm⟩ : ∃ m, l.length = m := ⟨_, rfl⟩
      rw [hm] at hc
      clear hcs hl hcv hm hS
      go_wp2
      go_roundg (n - (k + 1))
      case measure => omega
      case rel => exact ⟨k + 1, _, rfl, by go_num, by omega, rfl, rfl⟩
    · have hge : decide ((k : Int) < n) = false := by simp; omega
      by_cases h500 : 500 < t
      · go_wp2_with fail
        refine (HB.out _).mono ?_
        rintro e w1 ⟨rfl, hb1⟩
        go_wp2
        go_ret
        exact ⟨rfl, hb1⟩
      · have h5 : decide ((500 : Int) < t) = false := by simp; omega
        go_wp2_with fail
        refine (docAll_big _ L _ w HV.out HBIG.out).mono ?_
        rintro e w1 ⟨rfl, hw⟩
        have hb1 := below_eq hw
        clear hw
        have HB1 := Lib.hid hb1
        clear hb1
        go_wp2_with fail
        refine (all_big _ L _ _ (HV.out.below HB1.out) HBIG.out).mono ?_
        rintro e w2 ⟨rfl, hw⟩
        have hb2 := below_eq hw
        clear hw
        have HB2 := Lib.hid (HB1.out.trans (hb2.mono HB1.out.size))
        clear hb2
        go_wp2_with fail
        refine (new_big _ L _ _ (HV.out.below HB2.out) HBIG.out).mono ?_
        rintro e w3 ⟨rfl, hw⟩
        have hb3 := below_eq hw
        clear hw
        have HB3 := Lib.hid (HB2.out.trans (hb3.mono HB2.out.size))
        clear hb3
        go_wp2_with fail
        refine (HB.out _).mono ?_
        rintro e w4 ⟨rfl, hb4⟩
        have HB4 := Lib.hid (HB3.out.trans (hb4.mono HB3.out.size))
        clear hb4
        go_wp2_with fail
        refine (cells_bel _ _ [] (fun _ => False) (fun _ => False) _ ⟨none, 0, rfl, Nat.le_refl _, Nat.zero_le _, .inl rfl⟩ ⟨none, 0, rfl, Nat.le_refl _, Nat.zero_le _, .inl rfl⟩).mono ?_
        rintro e w5 ⟨rfl, hb5⟩
        have HB5 := Lib.hid (HB4.out.trans (hb5.mono HB4.out.size))
        clear hb5
        go_wp2
        go_ret
        exact ⟨rfl, HB5.out⟩

theorem all_walk (v : Value) (L : List (List CellR)) (w : World) (h : LV w (fun _ => False) v L) (hreach : ∀ l ∈ L, l.length ≤ 2932031007317) :
    Calls Try.prog 4 #[v] w fun e w' => e = .returned (.bool true) ∧ Below w.heap.size w w' := by
  by_cases hb : L.length ≤ 1000
  · by_cases hs : Sorted L
    · exact allw_srt v L w h hreach hb hs
    · exact allw_uns v L w h hreach hb hs
  · exact allw_big v L w h hreach (by omega)
end Go.Proofs.Ytcgkpgjjifggcaa
