/-
  Merge: the law MergeNext walked.
-/
import Derived.Test.YtcgkpgjjifggcaaN27
namespace Go.Proofs.Ytcgkpgjjifggcaa
set_option linter.unusedVariables false
set_option linter.unusedSimpArgs false
open Go.RowKit Sl
attribute [local go_sem] Qu.plus_cell Qu.plus_frozen

set_option maxHeartbeats 800000 in
theorem none_ok (w : World) : Calls Try.prog 17 #[] w fun e w' => e = .returned (.pointer none) ∧ w = w' := by
  go_enter Try.func17, Try.ntmps17
  go_wp2
  go_ret
  exact ⟨rfl, rfl⟩
/-- What the law asks of a merger and of the document's list. -/
structure NextK (w2 : World) (g c : Nat) (D : List CellR) (m t : Nat) : Prop where
  A1 : ∀ W, Below w2.heap.size w2 W → Calls Try.prog 13 #[.slice (some ⟨g, 0, none⟩) c c] W (AllK D m W)
  A2 : ∀ W, Below w2.heap.size w2 W → Calls Try.prog 14 #[.slice (some ⟨g, 0, none⟩) c c] W (fun e w' => ∃ M E T, e = .returned (.tuple #[.pointer (some ⟨M, 0, none⟩), .int .i64 0]) ∧ Mg w' M W.heap.size E T ∧ T.length ≤ 1000 ∧ Pl.dd CellR.ver T = D ∧ Below W.heap.size W w')
  len : D.length = m
  small : m ≤ 1000
theorem next_parts (w2 : World) (g c : Nat) (L : List (List CellR)) (hL : L.length = c) (hc : c ≤ 9) (hs : Sorted L) (h60 : ∀ l ∈ L, l.length ≤ 60) (hlv : LV w2 (fun _ => False) (.slice (some ⟨g, 0, none⟩) c c) L) :
    ∃ D m t, NextK w2 g c D m t := by
  have hto : total L ≤ 540 := by have := total_le L 60 h60; rw [hL] at this; omega
  have hl := Nat.le_trans (docA_total L) hto
  exact ⟨docA L, (docA L).length, 0, ⟨fun W hW => docAllK _ L _ W (hlv.below hW) hs (by omega) (by omega) _ _ rfl rfl, fun W hW => (newK _ L _ W (hlv.below hW) hs (by omega) (by omega) _ rfl).mono (by
    rintro e w' ⟨M, E, T, h1, h2, h3, h4, h5⟩
    exact ⟨M, E, T, h1, h2, by omega, h4, h5⟩), rfl, by omega⟩⟩
theorem run_cellNe2 (c : CellR) (w : World) : (binOp .neq 42 (.agg #[.string c.ver.key, .int .i64 c.ver.seq, .int .i64 c.ver.kind, .string c.val]) (.agg #[.string c.ver.key, .int .i64 c.ver.seq, .int .i64 c.ver.kind, .string c.val])).run Try.prog w = .ok (.bool false) w := run_cellNe c w

set_option maxRecDepth 100000 in
set_option maxHeartbeats 12800000 in
theorem next_walk (v : Value) (l : List CellR) (S : Nat → Prop) (vw : Value) (xs : List Int) (S' : Nat → Prop) (cnt : Int) (w : World) (h : CV w S v l) (hw : SlV intE w S' vw xs) :
    Calls Try.prog 5 #[v, vw, .int .i64 cnt] w fun e w' => e = .returned (.bool true) ∧ Below w.heap.size w w' := by
  obtain ⟨ck, hck, hck9⟩ := split_k cnt 9 (by omega) (by omega)
  have HB := Lib.hid (fun W => blends_ok W)
  have HSP : Hid (∀ W, Below w.heap.size w W → Calls Try.prog 10 #[v, vw, .int .i64 ((ck : Int) + 1)] W fun e w2 => ∃ g D m t, e = .returned (.slice (some ⟨g, 0, none⟩) (ck + 1) (ck + 1)) ∧ NextK w2 g (ck + 1) D m t ∧ Below w.heap.size w w2) := Lib.hid (fun W hW => (split_ok v l S vw xs S' (ck + 1) W (h.below hW) (hw.below hW) (by omega) (by omega)).mono (by
    rintro e w2 ⟨g, L, rfl, hL6, hso, hl60, hlv, hb2⟩
    obtain ⟨D, m, t, hk⟩ := next_parts w2 g (ck + 1) L hL6 (by omega) hso hl60 (LV.mono hlv (fun _ h => h.elim))
    exact ⟨g, D, m, t, rfl, hk, hW.trans (hb2.mono hW.size)⟩))
  have HN0 := Lib.hid (next_nil w)
  unfold CellR.value noCell at HN0
  have e9 : ((9 : Nat) : Int) = 9 := rfl
  rw [e9] at hck
  clear h hw e9
  have hc0 : (0 : Int) ≤ (ck : Int) := by omega
  have hc8 : (ck : Int) ≤ 8 := by omega
  have e1 : (1 : Int) + (ck : Int) = (ck : Int) + 1 := by omega
  go_enter Try.func5, Try.ntmps5
  go_wp2_with fail
  refine (none_ok _).mono ?_
  rintro e w' ⟨rfl, rfl⟩
  go_wp2_with fail
  refine (HN0.out).mono ?_
  rintro e w1 ⟨rfl, hb1⟩
  have HB1 := Lib.hid hb1
  clear hb1
  go_wp2_with fail
  refine (HB.out _).mono ?_
  rintro e w3 ⟨rfl, hb3⟩
  have HB3 := Lib.hid ((HB1.out.alloc HB1.out.size _).trans (hb3.mono (by simp; have := HB1.out.size; omega)))
  clear hb3
  go_wp2_with fail
  refine (none_ok _).mono ?_
  rintro e w' ⟨rfl, rfl⟩
  go_wp2_with fail
  refine (left_nil _).mono ?_
  rintro e w' ⟨rfl, rfl⟩
  go_wp2_with fail
  refine (HSP.out _ HB3.out).mono ?_
  rintro e w4 ⟨g, D, m, t, rfl, hk, hb4⟩
  have HK := Lib.hid hk
  have HB4 := Lib.hid hb4
  clear hk hb4 HSP HN0 HB HB1 HB3
  have hck1 : (1 : Int) + (ck : Int) = ((ck + 1 : Nat) : Int) := by omega
  clear hck1
  generalize ck + 1 = cc at *
  go_wp2_with fail
  refine (HK.out.A1 _ (Below.refl _ _)).mono ?_
  rintro e w5 ⟨a1, c1, rfl, hcv1, hb5⟩
  have HB5 := Lib.hid hb5
  have HC5 := Lib.hid hcv1
  clear hb5 hcv1
  go_wp2_with fail
  refine (HK.out.A2 _ HB5.out).mono ?_
  rintro e w6 ⟨M, E, T, rfl, hmg, htl, hdd, hb6⟩
  have HMG := Lib.hid hmg
  have HTL := Lib.hid htl
  have HDD := Lib.hid hdd
  have HCM : Hid (CV w6 (fun k => w5.heap.size ≤ k ∧ k < E) (.slice a1 m c1) D) := Lib.hid ((SlV.lim HC5.out (T := fun k => w5.heap.size ≤ k ∧ k < E) (fun b hb _ h => by omega)).below hb6)
  have HB6 := Lib.hid ((HB4.out.trans (HB5.out.mono HB4.out.size)).trans (hb6.mono (Nat.le_trans HB4.out.size HB5.out.size)))
  have HMB : Hid (w5.heap.size ≤ E ∧ w.heap.size ≤ w5.heap.size) := Lib.hid ⟨by have h1 := hmg.1; have h2 := hmg.2.1; omega, Nat.le_trans HB4.out.size HB5.out.size⟩
  have hm := HK.out.small
  have HLN := Lib.hid HK.out.len
  clear hmg htl hdd hb6 HC5 HK HB4 HB5
  go_wp2_with fail
  go_loopg [13] m (fun g s13 wr => ∃ (i : Nat) (V : List (CellR × Nat)), g = m - i ∧ s13 = .int .i64 i ∧ i ≤ m ∧ Hid (Pl.dd CellR.ver V = D.drop i) ∧ Hid (V.length ≤ 1000) ∧ Hid (Mg wr M w5.heap.size E V) ∧ Hid (CV wr (fun k => w5.heap.size ≤ k ∧ k < E) (.slice a1 m c1) D) ∧ Hid (Below w.heap.size w wr))
  case atStart => exact ⟨0, T, by omega, rfl, Nat.zero_le _, HDD, HTL, HMG, HCM, HB6⟩
  case round =>
    clear HMG HTL HDD HCM HB6
    obtain ⟨i, V, rfl, rfl, him, HV, HVL, HMG, HC, HW⟩ := hrel
    by_cases hlt : i < m
    · have hltI : (i : Int) < m := by omega
      have hi0 : (0 : Int) ≤ (i : Int) := by omega
      obtain ⟨bb, o, rfl, -, hbl, hcs⟩ := CV.of HC.out (by omega)
      obtain ⟨c, hc⟩ := get_of (l := D) (k := i) (by have := HLN.out; omega)
      obtain ⟨x1, x2, x3, x4⟩ := hcs i c hc
      obtain ⟨j, U, rfl, HV2⟩ : ∃ j U, V = (c, j) :: U ∧ Hid (Pl.dd CellR.ver (Pl.past CellR.ver c.ver U) = D.drop (i + 1)) := by
        obtain ⟨hiD, rfl⟩ := List.getElem?_eq_some_iff.1 hc
        have h1 := HV.out
        rw [List.drop_eq_getElem_cons hiD] at h1
        cases V with
        | nil => rw [Pl.dd_nil] at h1; cases h1
        | cons x U =>
          obtain ⟨d, j⟩ := x
          rw [Pl.dd_cons] at h1
          injection h1 with h2 h3
          simp only at h2 h3
          subst h2
          exact ⟨j, U, rfl, Lib.hid h3⟩
      obtain ⟨a, ha⟩ : ∃ a, ((c, j) :: U).length = a := ⟨_, rfl⟩
      obtain ⟨b, hb⟩ : ∃ b, (Pl.past CellR.ver c.ver U).length = b := ⟨_, rfl⟩
      have hba : b < a := by rw [← ha, ← hb]; have := Pl.past_len CellR.ver c.ver U; simp; omega
      have ha1000 : a ≤ 1000 := by rw [← ha]; exact HVL.out
      obtain ⟨p, hp⟩ : ∃ p, m - i - 1 = p := ⟨_, rfl⟩
      have hpb : p ≤ b := by
        have h1 := Pl.dd_len CellR.ver _ (Pl.past CellR.ver c.ver U) rfl
        rw [HV2.out, List.length_drop, HLN.out, hb] at h1
        omega
      have HLF := Lib.hid (left_ok wr M _ E _ HMG.out (by rw [ha]; omega))
      rw [ha] at HLF
      have HNX : Hid (∀ W, Below wr.heap.size wr W → Calls Try.prog 18 #[.pointer (some ⟨M, 0, none⟩)] W fun e w' => e = .returned (.tuple #[.agg #[.string c.ver.key, .int .i64 c.ver.seq, .int .i64 c.ver.kind, .string c.val], .int .i64 0]) ∧ Mg w' M w5.heap.size E (Pl.past CellR.ver c.ver U) ∧ Mod (Mid w5.heap.size E) wr w') := Lib.hid (fun W hW => (next_ok W M _ E c j U (HMG.out.later (hW.mono HMG.out.2.2.1))).mono (by
        rintro e w' ⟨rfl, h1, h2⟩
        exact ⟨rfl, h1, (Mod.of_below hW (Nat.le_refl _)).trans h2⟩))
      have HBB := Lib.hid hb
      have hnb : ¬ Mid w5.heap.size E bb := by
        obtain ⟨b', o', cap', e1, -, -, e2, -⟩ := CV.cell HC.out (fun e => by have := HLN.out; rw [e] at this; simp at this; omega)
        simp only [Value.slice.injEq, Option.some.injEq, Addr.mk.injEq] at e1
        rw [e1.1.1]
        exact e2
      have HX : Hid (∀ W, Mod (Mid w5.heap.size E) wr W → W.cell? ⟨bb, o + i * 4, none⟩ = some (.string c.ver.key) ∧ W.cell? ⟨bb, o + i * 4 + 1, none⟩ = some (.int .i64 c.ver.seq) ∧ W.cell? ⟨bb, o + i * 4 + 2, none⟩ = some (.int .i64 c.ver.kind) ∧ W.cell? ⟨bb, o + i * 4 + 3, none⟩ = some (.string c.val) ∧ bb < W.heap.size) := Lib.hid (fun W hW =>
        ⟨by rw [hW.cell bb _ hbl hnb]; exact x1, by rw [hW.cell bb _ hbl hnb]; exact x2, by rw [hW.cell bb _ hbl hnb]; exact x3, by rw [hW.cell bb _ hbl hnb]; exact x4, Nat.lt_of_lt_of_le hbl hW.size⟩)
      have hcap1 := (SlV.len HC.out).2
      obtain ⟨hcap2, hcap3⟩ := hcap1
      unfold maxLen at hcap3
      clear hcs hc ha hb x1 x2 x3 x4 hbl hnb
      go_wp2_with fail
      refine (HLF.out).mono ?_
      rintro e w7 ⟨rfl, hb7⟩
      have HB7 := Lib.hid hb7
      clear hb7
      go_wp2_with fail
      refine (HNX.out _ HB7.out).mono ?_
      rintro e w8 ⟨rfl, hmg8, hmo8⟩
      have HMG8 := Lib.hid hmg8
      have HMO8 := Lib.hid hmo8
      obtain ⟨x1, x2, x3, x4, hbl⟩ := HX.out _ hmo8
      clear hmg8 hmo8 HX HNX HLF
      have HL8 : Hid (∀ X, Calls Try.prog 16 #[.pointer (some ⟨M, 0, none⟩)] (Qu.plus (w8.alloc (.cells #[.string c.ver.key, .int .i64 c.ver.seq, .int .i64 c.ver.kind, .string c.val] 42)) X) fun e w' => e = .returned (.int .i64 b) ∧ Below (Qu.plus (w8.alloc (.cells #[.string c.ver.key, .int .i64 c.ver.seq, .int .i64 c.ver.kind, .string c.val] 42)) X).heap.size (Qu.plus (w8.alloc (.cells #[.string c.ver.key, .int .i64 c.ver.seq, .int .i64 c.ver.kind, .string c.val] 42)) X) w') := Lib.hid (fun X => by
        have h1 := HMG8.out.later ((Below.refl E w8).alloc HMG8.out.2.2.1 (.cells #[.string c.ver.key, .int .i64 c.ver.seq, .int .i64 c.ver.kind, .string c.val] 42))
        have h2 := h1.later ((Qu.plus_below _ X).mono h1.2.2.1)
        have h3 := left_ok _ M _ E _ h2 (by rw [HBB.out]; omega)
        rw [HBB.out] at h3
        exact h3)
      have hne := run_cellNe2 c
      have e1 : IntKind.i64.wrap ((m : Int) - i) = (p : Int) + 1 := by
        have : (m : Int) - i = (p : Int) + 1 := by omega
        rw [this]; exact IntWalk.i64_in _ (by omega)
      have e2 : IntKind.i64.wrap ((p : Int) + 1 - 1) = p := by rw [Int.add_sub_cancel]; exact IntWalk.i64_in _ (by omega)
      have t1 : decide (a ≤ b) = false := by simp; omega
      have t2 : decide (b < p) = false := by simp; omega
      clear hp
      go_wp2_with fail
      refine Qu.wp_region_plus (by kernel_rfl) (by kernel_rfl) ?_
      repeat (go_big_quiet_step ((refine Qu.plus_call (HL8.out _))))
      refine wpQuiet_nil ?_
      rintro _ ⟨X, rfl⟩
      have HXX := Lib.hid (Qu.plus_below (w8.alloc (.cells #[.string c.ver.key, .int .i64 c.ver.seq, .int .i64 c.ver.kind, .string c.val] 42)) X)
      clear hne e1 e2 t1 t2 x1 x2 x3 x4
      go_wp2
      go_roundg (m - (i + 1))
      case measure => omega
      case rel =>
        have hbz := ((Below.refl w8.heap.size w8).alloc (Nat.le_refl _) (.cells #[.string c.ver.key, .int .i64 c.ver.seq, .int .i64 c.ver.kind, .string c.val] 42)).trans (HXX.out.mono (by simp))
        refine ⟨i + 1, _, rfl, by go_num, by omega, HV2, Lib.hid (by rw [HBB.out]; omega), Lib.hid (HMG8.out.later (hbz.mono HMG8.out.2.2.1)), Lib.hid ((SlV.mod HC.out HMO8.out).below hbz), Lib.hid ?_⟩
        exact (HW.out.trans (HMO8.out.below (fun k hk => Nat.le_trans HMB.out.2 hk.1) HW.out.size)).trans (hbz.mono (Nat.le_trans HW.out.size HMO8.out.size))
    · have hge : decide ((i : Int) < m) = false := by simp; omega
      obtain rfl : V = [] := by
        have h1 := HV.out
        rw [List.drop_of_length_le (by rw [HLN.out]; omega)] at h1
        cases V with
        | nil => rfl
        | cons x U => rw [Pl.dd_cons] at h1; cases h1
      have HN1 : Hid (∀ W, Below wr.heap.size wr W → Calls Try.prog 18 #[.pointer (some ⟨M, 0, none⟩)] W fun e w' => e = .returned (.tuple #[.agg #[.string ⟨#[]⟩, .int .i64 0, .int .i64 0, .string ⟨#[]⟩], .int .i64 15]) ∧ Below wr.heap.size wr w') := Lib.hid (fun W hW => (next_end W M _ E (HMG.out.later (hW.mono HMG.out.2.2.1))).mono (by
        rintro e w' ⟨rfl, h2⟩
        exact ⟨rfl, hW.trans (h2.mono hW.size)⟩))
      have HL1 : Hid (∀ W, Below wr.heap.size wr W → Calls Try.prog 16 #[.pointer (some ⟨M, 0, none⟩)] W fun e w' => e = .returned (.int .i64 0) ∧ Below wr.heap.size wr w') := Lib.hid (fun W hW => (left_ok W M _ E [] (HMG.out.later (hW.mono HMG.out.2.2.1)) (by decide)).mono (by
        rintro e w' ⟨rfl, h2⟩
        exact ⟨rfl, hW.trans (h2.mono hW.size)⟩))
      go_wp2_with fail
      refine (HN1.out _ (Below.refl _ _)).mono ?_
      rintro e w7 ⟨rfl, hb7⟩
      have HB7 := Lib.hid hb7
      clear hb7
      go_wp2_with fail
      refine (HN1.out _ HB7.out).mono ?_
      rintro e w8 ⟨rfl, hb8⟩
      have HB8 := Lib.hid hb8
      clear hb8
      go_wp2_with fail
      refine (HL1.out _ HB8.out).mono ?_
      rintro e w9 ⟨rfl, hb9⟩
      have HB9 := Lib.hid hb9
      clear hb9
      go_wp2
      go_ret
      exact ⟨rfl, HW.out.trans (HB9.out.mono HW.out.size)⟩
end Go.Proofs.Ytcgkpgjjifggcaa
