/-
  Merge: contract of the law's sort.
-/
import Derived.Test.YtcgkpgjjifggcaaN18
import Derived.Test.YtcgkpgjjifggcaaM4
namespace Go.Proofs.Ytcgkpgjjifggcaa
set_option linter.unusedVariables false
set_option linter.unusedSimpArgs false
open Go.RowKit Sl
attribute [local go_sem] Qu.plus_cell Qu.plus_frozen

theorem run_verNe (x y : VerR) (w : World) : (binOp .neq 40 x.val y.val).run Try.prog w = .ok (.bool (!decide (x = y))) w := by
  obtain ⟨a, q, d⟩ := x
  obtain ⟨b, r, f⟩ := y
  unfold VerR.val
  go_simp
  have e : a.toList = b.toList ↔ a = b := ⟨ofList_inj _ _, fun h => by rw [h]⟩
  simp only [e]
  by_cases h1 : a = b <;> by_cases h2 : q = r <;> by_cases h3 : d = f <;> simp [h1, h2, h3]
/-- One more, in its order. -/
theorem place_srt (D : List CellR) (c : CellR) (i a : Nat) (hs : Pl.Srt CellR.ver verLt D) (hi : i ≤ D.length) (ha : a ≤ D.length) (h1 : ∀ t x, t < i → D[t]? = some x → verLt x.ver c.ver = true) (h2 : ∀ x, D[i]? = some x → verLt x.ver c.ver = false)
    (g1 : ∀ t x, t < a → D[t]? = some x → verLt x.ver c.ver = true) (g2 : ∀ x, D[a]? = some x → verLt x.ver c.ver = false ∧ x.ver ≠ c.ver) : Pl.Srt CellR.ver verLt (D.take i ++ (c :: D.drop i)) := by
  have hia : i = a := by
    rcases Nat.lt_trichotomy i a with h | h | h
    · have hl : i < D.length := by omega
      have e1 := g1 i D[i] h (by simp [hl])
      have e2 := h2 D[i] (by simp [hl])
      rw [e1] at e2; cases e2
    · exact h
    · have hl : a < D.length := by omega
      have e1 := h1 a D[a] h (by simp [hl])
      have e2 := (g2 D[a] (by simp [hl])).1
      rw [e1] at e2; cases e2
  refine Pl.srt_place CellR.ver verLt verLt_ord D c hs i (fun x hx => ?_) (fun x r hr => ?_)
  · obtain ⟨t, ht, rfl⟩ := List.getElem_of_mem hx
    have ht2 : t < i ∧ t < D.length := by simp at ht; omega
    exact h1 t _ ht2.1 (by simp)
  · have hx : D[i]? = some x := by
      have : (D.drop i)[0]? = some x := by rw [hr]; rfl
      simpa using this
    obtain ⟨e1, e2⟩ := g2 x (hia ▸ hx)
    rcases verLt_ord.tri c.ver x.ver with h | h | h
    · exact h
    · exact absurd h.symm e2
    · rw [e1] at h; cases h

def SortPost (w : World) (e : Ending) (w' : World) : Prop :=
  ∃ v' D, e = .returned v' ∧ Pl.Srt CellR.ver verLt D ∧ D.length ≤ 60 ∧ Has w' w.heap.size 4 v' D.length (flat CellR.cells D) ∧ Below w.heap.size w w'

set_option maxRecDepth 100000 in
set_option maxHeartbeats 6400000 in
theorem sort_ok (v : Value) (l : List CellR) (S : Nat → Prop) (w : World) (h : CV w S v l) :
    Calls Try.prog 22 #[v] w (SortPost w) := by
  obtain ⟨ao, cap, hv⟩ := h.shape
  obtain ⟨n, hn⟩ : ∃ n, l.length = n := ⟨_, rfl⟩
  rw [hn] at hv
  subst hv
  have HV := Lib.hid h
  have HN := Lib.hid hn
  obtain ⟨-, h2, h3⟩ := SlV.len h
  unfold maxLen at h3
  clear h hn
  go_enter Try.func22, Try.ntmps22
  go_wp2
  go_loopg [3, 4, 5] n (fun g s3 s4 s5 wr => ∃ (i : Nat) (D : List CellR) (a3 : Option Addr) (m c3 : Nat), g = n - i ∧ s4 = .int .i64 i ∧ i ≤ n ∧ i ≤ 60 ∧ s3 = .slice a3 m c3 ∧ m ≤ i ∧ Hid (D.length = m) ∧ Hid (Pl.Srt CellR.ver verLt D) ∧ Hid (Has wr w.heap.size 4 (.slice a3 m c3) m (flat CellR.cells D)) ∧ Hid (Below w.heap.size w wr))
  case atStart => exact ⟨0, [], none, 0, 0, by omega, rfl, Nat.zero_le _, by omega, rfl, Nat.le_refl _, Lib.hid rfl, Lib.hid List.Pairwise.nil, Lib.hid (Has.nil _ _ _), Lib.hid (Below.refl _ _)⟩
  case round =>
    obtain ⟨i, D, a3, m, c3, rfl, rfl, hin, hi60, rfl, hmi, HDL, HDS, HDH, HW⟩ := hrel
    by_cases hlt : i < n ∧ i < 60
    · obtain ⟨hlt, hlt6⟩ := hlt
      have hltI : (i : Int) < n := by omega
      have hlt6I : (i : Int) < 60 := by omega
      have a1 : (0 : Int) ≤ (i : Int) := by omega
      obtain ⟨bb, o, rfl, hS, hbl, hcs⟩ := CV.of (HV.out.below HW.out) (by omega)
      obtain ⟨c, hc⟩ := get_of (l := l) (k := i) (by have := HN.out; omega)
      have hcs := hcs i c hc
      have HCS := Lib.hid hcs
      clear hcs hc hS
      obtain ⟨wo, rfl⟩ : ∃ wo : World, wo = wr := ⟨_, rfl⟩
      go_wp2_with fail
      go_loopg [5] m (fun g s5 wi => ∃ a : Nat, g = m - a ∧ s5 = .int .i64 a ∧ a ≤ m ∧ Hid (∀ t x, t < a → D[t]? = some x → verLt x.ver c.ver = true) ∧ Hid (Below wo.heap.size wo wi))
      case atStart => exact ⟨0, by omega, rfl, Nat.zero_le _, Lib.hid (fun t _ h _ => absurd h (Nat.not_lt_zero _)), Lib.hid (Below.refl _ _)⟩
      case round =>
        obtain ⟨a, rfl, rfl, ham, HL, HWI⟩ := hrel
        have y1 := (HWI.out.cell (p := ⟨bb, o + i * 4, none⟩) hbl).trans HCS.out.1
        have y2 := (HWI.out.cell (p := ⟨bb, o + i * 4 + 1, none⟩) hbl).trans HCS.out.2.1
        have y3 := (HWI.out.cell (p := ⟨bb, o + i * 4 + 2, none⟩) hbl).trans HCS.out.2.2.1
        have y4 := (HWI.out.cell (p := ⟨bb, o + i * 4 + 3, none⟩) hbl).trans HCS.out.2.2.2
        have hblr : bb < wr.heap.size := Nat.lt_of_lt_of_le hbl HWI.out.size
        have HDI := Lib.hid (HDH.out.below HWI.out (fun g hg => (HDH.out.lt g hg).2))
        by_cases hal : a < m
        · have halI : (a : Int) < m := by omega
          have a2 : (0 : Int) ≤ (a : Int) := by omega
          have hane : ((a : Int) == m) = false := by simp; omega
          have hcv : CV wr (fun k => k < w.heap.size) (.slice a3 m c3) D := by have := HDI.out; rw [← HDL.out] at this ⊢; exact SlV.of_has this
          obtain ⟨b3, o3, rfl, -, hb3, hds⟩ := CV.of hcv (by omega)
          obtain ⟨x, hx⟩ := get_of (l := D) (k := a) (by have := HDL.out; omega)
          obtain ⟨x1, x2, x3, x4⟩ := hds a x hx
          obtain ⟨r, hr⟩ : ∃ r, verLt x.ver c.ver = r := ⟨_, rfl⟩
          have HIK : Hid (∀ w', Calls Try.prog 27 #[.agg #[.string x.ver.key, .int .i64 x.ver.seq, .int .i64 x.ver.kind], .agg #[.string c.ver.key, .int .i64 c.ver.seq, .int .i64 c.ver.kind]] w' fun e w'' => e = .returned (.bool r) ∧ Below w'.heap.size w' w'') :=
            Lib.hid (fun w' => hr ▸ docLess_ok x.ver c.ver w')
          have HR := Lib.hid hr
          have HX := Lib.hid hx
          have hcap3 : m ≤ c3 ∧ c3 ≤ 9223372036854775807 := by have := SlV.len hcv; unfold maxLen at this; omega
          obtain ⟨hcap3, hcap3b⟩ := hcap3
          clear hds hr hx hcv
          cases r with
          | true =>
            go_wp2_with fail
            refine Qu.wp_region_plus (by kernel_rfl) (by kernel_rfl) ?_
            repeat (go_big_quiet_step ((refine Qu.plus_call (HIK.out _))))
            refine wpQuiet_nil ?_
            rintro _ ⟨X, rfl⟩
            have HXX := Lib.hid (Qu.plus_below wr X)
            go_wp2
            go_roundg (m - (a + 1))
            case measure => omega
            case rel =>
              refine ⟨a + 1, rfl, by go_num, by omega, Lib.hid (fun t c' ht h1 => ?_), Lib.hid (HWI.out.trans (HXX.out.mono HWI.out.size))⟩
              by_cases htk : t = a
              · subst htk
                have e1 := HX.out.symm.trans h1
                cases e1
                exact HR.out
              · exact HL.out t c' (by omega) h1
          | false =>
            obtain ⟨q, hq⟩ : ∃ q, decide (x.ver = c.ver) = q := ⟨_, rfl⟩
            have HE2 : Hid (∀ w', (binOp .neq 40 (.agg #[.string x.ver.key, .int .i64 x.ver.seq, .int .i64 x.ver.kind]) (.agg #[.string c.ver.key, .int .i64 c.ver.seq, .int .i64 c.ver.kind])).run Try.prog w' = .ok (.bool (!q)) w') := Lib.hid (fun w' => hq ▸ run_verNe x.ver c.ver w')
            have HQ := Lib.hid hq
            clear hq
            cases q with
            | true =>
              go_wp2_with fail
              refine Qu.wp_region_plus (by kernel_rfl) (by kernel_rfl) ?_
              repeat (go_big_quiet_step ((refine Qu.plus_call (HIK.out _))))
              refine wpQuiet_nil ?_
              rintro _ ⟨X, rfl⟩
              have HXX := Lib.hid (Qu.plus_below wr X)
              have hne := HE2.out
              clear HE2
              go_wp2_with fail
              go_quiet (fail)
              go_wp2
              go_roundg (n - (i + 1))
              case measure => omega
              case rel => exact ⟨i + 1, D, _, m, c3, rfl, by go_num, by omega, by omega, rfl, by omega, HDL, HDS, Lib.hid (has_dn (HDI.out.below HXX.out (fun g hg => (HDI.out.lt g hg).2)) _), Lib.hid (below_dn ((HW.out.trans (HWI.out.mono HW.out.size)).trans (HXX.out.mono (Nat.le_trans HW.out.size HWI.out.size))) _)⟩
            | false =>
              have HG2 : Hid (∀ y, D[a]? = some y → verLt y.ver c.ver = false ∧ y.ver ≠ c.ver) := Lib.hid (fun y hy => by
                have e1 := HX.out.symm.trans hy
                cases e1
                exact ⟨HR.out, of_decide_eq_false HQ.out⟩)
              go_wp2_with fail
              refine Qu.wp_region_plus (by kernel_rfl) (by kernel_rfl) ?_
              repeat (go_big_quiet_step ((refine Qu.plus_call (HIK.out _))))
              refine wpQuiet_nil ?_
              rintro _ ⟨X, rfl⟩
              have HXX := Lib.hid (Qu.plus_below wr X)
              have hne := HE2.out
              clear HE2
              go_wp2_with fail
              go_quiet (fail)
              have HPL : Hid (∀ W, Below wr.heap.size wr W → Calls Try.prog 32 #[.slice _ m c3, .agg #[.string c.ver.key, .int .i64 c.ver.seq, .int .i64 c.ver.kind, .string c.val]] W (PlacePost D c W)) := Lib.hid (fun W hW => place_ok _ D c (fun k => k < w.heap.size) W (by
                have h0 := HDI.out.below hW (fun g hg => (HDI.out.lt g hg).2)
                have := HDL.out
                rw [← this] at h0 ⊢
                exact SlV.of_has h0) (by rw [HDL.out]; omega))
              go_wp2_with fail
              refine (HPL.out _ (below_dn HXX.out _)).mono ?_
              rintro e w2 ⟨v2, p, rfl, hp, q1, q2, hh, hb2⟩
              have HS2 := Lib.hid (place_srt D c p a HDS.out hp (by rw [HDL.out]; exact ham) q1 q2 HL.out HG2.out)
              have HLL : Hid ((D.take p ++ (c :: D.drop p)).length = m + 1) := Lib.hid (by rw [List.length_append, List.length_cons, List.length_take, List.length_drop, HDL.out]; have := HDL.out; omega)
              rw [HDL.out] at hh
              obtain ⟨a4, c4, rfl, -⟩ := hh.shape
              have HBT : Hid (Below w.heap.size w w2) := Lib.hid ((below_dn ((HW.out.trans (HWI.out.mono HW.out.size)).trans (HXX.out.mono (Nat.le_trans HW.out.size HWI.out.size))) _).trans (hb2.mono (Nat.le_trans (Nat.le_trans HW.out.size HWI.out.size) HXX.out.size)))
              have HH2 := Lib.hid (hh.base_le (Nat.le_trans (Nat.le_trans HW.out.size HWI.out.size) HXX.out.size))
              clear hp q1 q2 hh hb2 HPL
              go_wp2
              go_roundg (n - (i + 1))
              case measure => omega
              case rel => exact ⟨i + 1, _, a4, m + 1, c4, rfl, by go_num, by omega, by omega, rfl, by omega, HLL, HS2, HH2, HBT⟩
        · have hge : decide ((a : Int) < m) = false := by simp; omega
          have haeq : ((a : Int) == m) = true := by simp; omega
          have HG2 : Hid (∀ y, D[a]? = some y → verLt y.ver c.ver = false ∧ y.ver ≠ c.ver) := Lib.hid (fun y hy => by
            have h1 := (List.getElem?_eq_some_iff.1 hy).1
            rw [HDL.out] at h1
            exact absurd h1 hal)
          go_wp2_with fail
          refine Qu.wp_region_plus (by kernel_rfl) (by kernel_rfl) ?_
          repeat (go_big_quiet_step (fail))
          refine wpQuiet_nil ?_
          rintro _ ⟨X, rfl⟩
          have HXX := Lib.hid (Qu.plus_below wr X)
          go_wp2_with fail
          go_quiet (fail)
          have HPL : Hid (∀ W, Below wr.heap.size wr W → Calls Try.prog 32 #[.slice _ m c3, .agg #[.string c.ver.key, .int .i64 c.ver.seq, .int .i64 c.ver.kind, .string c.val]] W (PlacePost D c W)) := Lib.hid (fun W hW => place_ok _ D c (fun k => k < w.heap.size) W (by
            have h0 := HDI.out.below hW (fun g hg => (HDI.out.lt g hg).2)
            have := HDL.out
            rw [← this] at h0 ⊢
            exact SlV.of_has h0) (by rw [HDL.out]; omega))
          go_wp2_with fail
          refine (HPL.out _ (below_dn HXX.out _)).mono ?_
          rintro e w2 ⟨v2, p, rfl, hp, q1, q2, hh, hb2⟩
          have HS2 := Lib.hid (place_srt D c p a HDS.out hp (by rw [HDL.out]; exact ham) q1 q2 HL.out HG2.out)
          have HLL : Hid ((D.take p ++ (c :: D.drop p)).length = m + 1) := Lib.hid (by rw [List.length_append, List.length_cons, List.length_take, List.length_drop, HDL.out]; have := HDL.out; omega)
          rw [HDL.out] at hh
          obtain ⟨a4, c4, rfl, -⟩ := hh.shape
          have HBT : Hid (Below w.heap.size w w2) := Lib.hid ((below_dn ((HW.out.trans (HWI.out.mono HW.out.size)).trans (HXX.out.mono (Nat.le_trans HW.out.size HWI.out.size))) _).trans (hb2.mono (Nat.le_trans (Nat.le_trans HW.out.size HWI.out.size) HXX.out.size)))
          have HH2 := Lib.hid (hh.base_le (Nat.le_trans (Nat.le_trans HW.out.size HWI.out.size) HXX.out.size))
          clear hp q1 q2 hh hb2 HPL
          go_wp2
          go_roundg (n - (i + 1))
          case measure => omega
          case rel => exact ⟨i + 1, _, a4, m + 1, c4, rfl, by go_num, by omega, by omega, rfl, by omega, HLL, HS2, HH2, HBT⟩
    · by_cases hlt2 : i < n
      · have hlt2I : (i : Int) < n := by omega
        have hge6 : decide ((i : Int) < 60) = false := by simp; omega
        go_wp2
        go_ret
        exact ⟨_, D, rfl, HDS.out, by rw [HDL.out]; omega, by rw [HDL.out]; exact HDH.out, HW.out⟩
      · have hge6 : decide ((i : Int) < n) = false := by simp; omega
        go_wp2
        go_ret
        exact ⟨_, D, rfl, HDS.out, by rw [HDL.out]; omega, by rw [HDL.out]; exact HDH.out, HW.out⟩
end Go.Proofs.Ytcgkpgjjifggcaa
