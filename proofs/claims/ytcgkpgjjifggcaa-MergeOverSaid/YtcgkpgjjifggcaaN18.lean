/-
  Merge: contract of the document's Place.
-/
import Derived.Test.YtcgkpgjjifggcaaN17
namespace Go.Proofs.Ytcgkpgjjifggcaa
set_option linter.unusedVariables false
set_option linter.unusedSimpArgs false
open Go.RowKit Sl
attribute [local go_sem] Qu.plus_cell Qu.plus_frozen

theorem box_below {w w' : World} {k B : Nat} {c : CellR} (h : Box w k c) (hb : Below B w w') (hk : k < B) : Box w' k c :=
  ⟨by rw [hb.cell (p := ⟨k, 0, none⟩) hk]; exact h.key, by rw [hb.cell (p := ⟨k, 1, none⟩) hk]; exact h.seq, by rw [hb.cell (p := ⟨k, 2, none⟩) hk]; exact h.kind, by rw [hb.cell (p := ⟨k, 3, none⟩) hk]; exact h.val, fun o => by rw [hb.frozen (p := ⟨k, o, none⟩) hk]; exact h.free o⟩
theorem has_dn {w : World} {base size : Nat} {v : Value} {n : Nat} {xs : List Value} (h : Has w base size v n xs) (d : Nat) : Has (w.drewN d) base size v n xs := h.later (Nat.le_refl _) (fun _ _ _ => rfl)
def PlacePost (l : List CellR) (c : CellR) (w : World) (e : Ending) (w' : World) : Prop :=
  ∃ v' i, e = .returned v' ∧ i ≤ l.length ∧ (∀ t x, t < i → l[t]? = some x → verLt x.ver c.ver = true) ∧ (∀ x, l[i]? = some x → verLt x.ver c.ver = false) ∧
    Has w' w.heap.size 4 v' (l.length + 1) (flat CellR.cells (l.take i ++ (c :: l.drop i))) ∧ Below w.heap.size w w'

set_option maxHeartbeats 3200000 in
theorem place_ok (v : Value) (l : List CellR) (c : CellR) (S : Nat → Prop) (w : World) (h : CV w S v l) (hbig : l.length ≤ 1000) :
    Calls Try.prog 32 #[v, c.value] w (PlacePost l c w) := by
  obtain ⟨i0, hi, hz0, hz1, hz2⟩ := info_parts Try.infoCell
  obtain ⟨ao, cap, hv⟩ := h.shape
  obtain ⟨n, hn⟩ : ∃ n, l.length = n := ⟨_, rfl⟩
  rw [hn] at hv hbig
  subst hv
  have HV := Lib.hid h
  have HN := Lib.hid hn
  obtain ⟨-, h2, h3⟩ := SlV.len h
  unfold maxLen at h3
  have HBX := Lib.hid (Box.new w c)
  clear h hn
  unfold CellR.value
  go_enter Try.func32, Try.ntmps32
  go_wp2
  go_loopw [5] (fun i wr => ∃ k : Nat, i = .int .i64 k ∧ k ≤ n ∧ Hid (∀ t x, t < k → l[t]? = some x → verLt x.ver c.ver = true) ∧ Hid (Below (w.heap.size + 1) (w.alloc (.cells #[.string c.ver.key, .int .i64 c.ver.seq, .int .i64 c.ver.kind, .string c.val] 42)) wr))
    (fun i _ => n - (intOf i).toNat)
  case atStart => exact ⟨0, rfl, Nat.zero_le _, Lib.hid (fun t _ h _ => absurd h (Nat.not_lt_zero _)), Lib.hid (Below.refl _ _)⟩
  case round =>
    obtain ⟨k, rfl, hk, HL, HW⟩ := hrel
    have HB := Lib.hid (box_below HBX.out HW.out (by omega))
    have HBW : Hid (Below w.heap.size w wr) := Lib.hid (((Below.refl _ _).alloc (Nat.le_refl _) _).trans (HW.out.mono (by omega)))
    have b0 := HB.out.key
    have b1 := HB.out.seq
    have b2 := HB.out.kind
    have b3 := HB.out.val
    have hwr : w.heap.size < wr.heap.size := HB.out.lt
    by_cases hlt : k < n
    · have hlt2 : (k : Int) < n := by omega
      have a1 : (0 : Int) ≤ (k : Int) := by omega
      obtain ⟨bb, o, rfl, hS, hbl, hcs⟩ := CV.of (HV.out.below HBW.out) (by omega)
      obtain ⟨x, hx⟩ := get_of (l := l) (k := k) (by have := HN.out; omega)
      obtain ⟨x1, x2, x3, x4⟩ := hcs k x hx
      obtain ⟨r, hr⟩ : ∃ r, verLt x.ver c.ver = r := ⟨_, rfl⟩
      have HIK : Hid (∀ w', Calls Try.prog 27 #[.agg #[.string x.ver.key, .int .i64 x.ver.seq, .int .i64 x.ver.kind], .agg #[.string c.ver.key, .int .i64 c.ver.seq, .int .i64 c.ver.kind]] w' fun e w'' => e = .returned (.bool r) ∧ Below w'.heap.size w' w'') :=
        Lib.hid (fun w' => hr ▸ docLess_ok x.ver c.ver w')
      have HR := Lib.hid hr
      have HX := Lib.hid hx
      clear hcs hr hx hS
      cases r with
      | true =>
        go_wp2_with fail
        refine Qu.wp_region_plus (by kernel_rfl) (by kernel_rfl) ?_
        repeat (go_big_quiet_step ((refine Qu.plus_call (HIK.out _))))
        refine wpQuiet_nil ?_
        rintro _ ⟨X, rfl⟩
        have HXX := Lib.hid (Qu.plus_below wr X)
        go_wp2
        go_roundw
        case rel =>
          refine ⟨k + 1, by go_num, by omega, Lib.hid (fun t c' ht h1 => ?_), Lib.hid (HW.out.trans (HXX.out.mono (by omega)))⟩
          by_cases htk : t = k
          · subst htk
            have e1 := HX.out.symm.trans h1
            cases e1
            exact HR.out
          · exact HL.out t c' (by omega) h1
        case measure => simp [intOf]; omega
      | false =>
        have HE : Hid (∀ y, l[k]? = some y → verLt y.ver c.ver = false) := Lib.hid (fun y hy => by
          have e1 := HX.out.symm.trans hy
          cases e1
          exact HR.out)
        go_wp2_with fail
        refine Qu.wp_region_plus (by kernel_rfl) (by kernel_rfl) ?_
        repeat (go_big_quiet_step ((refine Qu.plus_call (HIK.out _))))
        refine wpQuiet_nil ?_
        rintro _ ⟨X, rfl⟩
        have HXX := Lib.hid (Qu.plus_below wr X)
        obtain ⟨ao, hao⟩ : ∃ ao : Option Addr, ao = some ⟨bb, o, none⟩ := ⟨_, rfl⟩
        rw [← hao] at HV ⊢
        clear HIK x1 x2 x3 x4 hlt2 hao
        obtain ⟨w0, hw0⟩ : ∃ w0, Qu.plus wr X = w0 := ⟨_, rfl⟩
        rw [hw0] at HXX ⊢
        have HBW0 : Hid (Below w.heap.size w w0) := Lib.hid (HBW.out.trans (HXX.out.mono HBW.out.size))
        have hB0 := box_below HB.out HXX.out hwr
        have c0 := hB0.key
        have c1 := hB0.seq
        have c2 := hB0.kind
        have c3 := hB0.val
        have hw0l : w.heap.size < w0.heap.size := hB0.lt
        have HB0 := Lib.hid hB0
        clear hw0 b0 b1 b2 b3 hB0
        have hkc : k ≤ cap := by omega
        have HC1 := Lib.hid (fun W (hW : Below w0.heap.size w0 W) => SlV.cutHi CellR.cells_len ((HV.out.below HBW0.out).below hW) k hk _ rfl)
        have HC2 := Lib.hid (fun W (hW : Below w0.heap.size w0 W) => SlV.cutLo CellR.cells_len ((HV.out.below HBW0.out).below hW) k hk)
        have HL1 : Hid ((flat CellR.cells (l.take k)).length = k * 4) := Lib.hid (by rw [flat_len CellR.cells 4 CellR.cells_len, List.length_take, HN.out, Nat.min_eq_left hk])
        have HL2 : Hid ((flat CellR.cells (l.drop k)).length = (n - k) * 4) := Lib.hid (by rw [flat_len CellR.cells 4 CellR.cells_len, List.length_drop, HN.out])
        have HKB : Hid (∀ W, Below w0.heap.size w0 W → W.cell? ⟨w.heap.size, 0, none⟩ = some (.string c.ver.key) ∧ W.cell? ⟨w.heap.size, 1, none⟩ = some (.int .i64 c.ver.seq) ∧ W.cell? ⟨w.heap.size, 2, none⟩ = some (.int .i64 c.ver.kind) ∧ W.cell? ⟨w.heap.size, 3, none⟩ = some (.string c.val)) := Lib.hid (fun W hW => by
          have hb := box_below HB0.out hW hw0l
          exact ⟨hb.key, hb.seq, hb.kind, hb.val⟩)
        have HG1 : Hid (∀ (W wa : World) (g : Nat), (Below w0.heap.size w0 W ∧ w0.heap.size < W.heap.size) → w0.heap.size ≤ g → W.grownBy wa (Value.slice (some ⟨g, 0, none⟩) 0 0).ownBlock → Below w0.heap.size w0 wa ∧ w0.heap.size < wa.heap.size) := Lib.hid (fun W wa g hW hg hga => ⟨hW.1.grown hga hW.1.size (fun k hk => by simp [Value.ownBlock] at hk; omega), Nat.lt_of_lt_of_le hW.2 hga.size⟩)
        have HG2 : Hid (∀ (W wb : World) (v : Value) (B : Nat), Below w0.heap.size w0 W → (∀ g, v.ownBlock = some g → w0.heap.size ≤ g) → W.grownBy wb v.ownBlock → Below w0.heap.size w0 wb) := Lib.hid (fun W wb v _ hW hg hga => hW.grown hga hW.size hg)
        go_wp2_with fail
        go_region_law
          (first
          | (refine step_append_view _ rfl (some 26) (by rfl) (.tmp 22) (.tmp 25) 22 (by rfl) w0.heap.size 42 i0 (.agg #[.string ⟨#[]⟩, .int .i64 0, .int .i64 0, .string ⟨#[]⟩]) 4 48 Try.underlying22 hi hz0 hz1 hz2 rfl (by decide) (.slice (some ⟨w0.heap.size, 0, none⟩) 0 0) 0 [] (by rfl) ?_ ao k cap (flat CellR.cells (l.take k)) (by rfl) HL1.out ?_ ?_ (flat_one CellR.cells CellR.cells_one _) (by unfold maxLen; omega) (by omega) ?_ ?_; exact Has.empty _ _ _ _ _ (by omega) (by simp <;> omega) rfl; exact (SlV.row (HC1.out w0 (Below.refl _ _))).1; (first | exact (SlV.row (HC1.out _ (bel_a1 _ _))).2 | exact (SlV.row (HC1.out _ (bel_a2 _ _ _))).2); (first | exact (bel_a1 _ _).size | exact (bel_a2 _ _ _).size); intro va wa ha ga na; obtain ⟨hbA, hsA⟩ := HG1.out _ _ _ (by first | exact ⟨bel_a1 _ _, by simp <;> omega⟩ | exact ⟨bel_a2 _ _ _, by simp <;> omega⟩) (Nat.le_refl _) ga; obtain ⟨f0, f1, f2, f3⟩ := HKB.out wa hbA)
          | (refine step_append_view _ rfl (some 26) (by rfl) (.tmp 22) (.tmp 25) 22 (by rfl) w0.heap.size 42 i0 (.agg #[.string ⟨#[]⟩, .int .i64 0, .int .i64 0, .string ⟨#[]⟩]) 4 48 Try.underlying22 hi hz0 hz1 hz2 rfl (by decide) (.slice (some ⟨w0.heap.size + 1, 0, none⟩) 0 0) 0 [] (by rfl) ?_ ao k cap (flat CellR.cells (l.take k)) (by rfl) HL1.out ?_ ?_ (flat_one CellR.cells CellR.cells_one _) (by unfold maxLen; omega) (by omega) ?_ ?_; exact Has.empty _ _ _ _ _ (by omega) (by simp <;> omega) rfl; exact (SlV.row (HC1.out w0 (Below.refl _ _))).1; (first | exact (SlV.row (HC1.out _ (bel_a1 _ _))).2 | exact (SlV.row (HC1.out _ (bel_a2 _ _ _))).2); (first | exact (bel_a1 _ _).size | exact (bel_a2 _ _ _).size); intro va wa ha ga na; obtain ⟨hbA, hsA⟩ := HG1.out _ _ _ (by first | exact ⟨bel_a1 _ _, by simp <;> omega⟩ | exact ⟨bel_a2 _ _ _, by simp <;> omega⟩) (Nat.le_succ _) ga; obtain ⟨f0, f1, f2, f3⟩ := HKB.out wa hbA)
          | (refine step_append_view _ rfl (some 29) (by rfl) (.tmp 26) (.tmp 28) 22 (by rfl) w0.heap.size 42 i0 (.agg #[.string ⟨#[]⟩, .int .i64 0, .int .i64 0, .string ⟨#[]⟩]) 4 48 Try.underlying22 hi hz0 hz1 hz2 rfl (by decide) va (0 + k) ([] ++ flat CellR.cells (l.take k)) (by rfl) ?_ (some ⟨_, 0, none⟩) 1 1 c.cells (by rfl) (by rfl) (fun e => by cases e) ?_ (CellR.cells_one c) (by unfold maxLen; omega) (by omega) ?_ ?_; (first | exact ha | exact ha.alloc _); (intro ad had; cases had; first | exact news_cell _ _ c (by simp [go_sem]) (by simp [go_sem]) (by simp [go_sem]) (by simp [go_sem]) | (exact news_cell _ _ c (by rw [World.cell?_of_block (ga.block _ (by simp <;> omega) (by simp [Value.ownBlock] <;> omega))]; simp [go_sem]) (by rw [World.cell?_of_block (ga.block _ (by simp <;> omega) (by simp [Value.ownBlock] <;> omega))]; simp [go_sem]) (by rw [World.cell?_of_block (ga.block _ (by simp <;> omega) (by simp [Value.ownBlock] <;> omega))]; simp [go_sem]) (by rw [World.cell?_of_block (ga.block _ (by simp <;> omega) (by simp [Value.ownBlock] <;> omega))]; simp [go_sem]))); (first | exact hbA.size | exact (hbA.alloc hbA.size _).size); intro vb wb hb gb nb; have hbB := HG2.out _ _ _ 0 (by first | exact hbA | exact hbA.alloc hbA.size _) (fun g hg => (ha.lt g hg).1) gb)
          | (refine step_append_view _ rfl (some 33) (by rfl) (.tmp 29) (.tmp 32) 22 (by rfl) w0.heap.size 42 i0 (.agg #[.string ⟨#[]⟩, .int .i64 0, .int .i64 0, .string ⟨#[]⟩]) 4 48 Try.underlying22 hi hz0 hz1 hz2 rfl (by decide) vb (0 + k + 1) ([] ++ flat CellR.cells (l.take k) ++ c.cells) (by rfl) hb (if cap = k then ao else ao.map (·.add (k * 4))) (n - k) (cap - k) (flat CellR.cells (l.drop k)) (by rfl) HL2.out (SlV.row (HC2.out w0 (Below.refl _ _))).1 (SlV.row (HC2.out _ hbB)).2 (flat_one CellR.cells CellR.cells_one _) (by unfold maxLen; omega) (by omega) hbB.size ?_; intro vc wc hc gc nc))
        all_goals
          have HF := Lib.hid (And.intro hc (HG2.out wb wc vb 0 hbB (fun g hg => (hb.lt g hg).1) gc))
          clear ha ga na hb gb nb hc gc nc hbA hbB hsA f0 f1 f2 f3
          go_wp2
          all_goals
            go_ret
            obtain ⟨hc, hbC⟩ := HF.out
            refine ⟨vc, k, rfl, by rw [HN.out]; exact hk, HL.out, HE.out, ?_, HBW0.out.trans (hbC.mono HBW0.out.size)⟩
            have e1 : 0 + k + 1 + (n - k) = l.length + 1 := by rw [HN.out]; omega
            have e2 : [] ++ flat CellR.cells (l.take k) ++ c.cells ++ flat CellR.cells (l.drop k) = flat CellR.cells (l.take k ++ (c :: l.drop k)) := by rw [flat_app, flat_cons]; simp
            rw [e1, e2] at hc
            exact hc.base_le HBW0.out.size
    · have hge : decide ((k : Int) < n) = false := by simp; omega
      have HE : Hid (∀ y, l[k]? = some y → verLt y.ver c.ver = false) := Lib.hid (fun y hy => by
        have h1 := (List.getElem?_eq_some_iff.1 hy).1
        rw [HN.out] at h1
        exact absurd h1 hlt)
      go_wp2_with fail
      refine Qu.wp_region_plus (by kernel_rfl) (by kernel_rfl) ?_
      repeat (go_big_quiet_step (fail))
      refine wpQuiet_nil ?_
      rintro _ ⟨X, rfl⟩
      have HXX := Lib.hid (Qu.plus_below wr X)
      obtain ⟨w0, hw0⟩ : ∃ w0, Qu.plus wr X = w0 := ⟨_, rfl⟩
      rw [hw0] at HXX ⊢
      have HBW0 : Hid (Below w.heap.size w w0) := Lib.hid (HBW.out.trans (HXX.out.mono HBW.out.size))
      have hB0 := box_below HB.out HXX.out hwr
      have c0 := hB0.key
      have c1 := hB0.seq
      have c2 := hB0.kind
      have c3 := hB0.val
      have hw0l : w.heap.size < w0.heap.size := hB0.lt
      have HB0 := Lib.hid hB0
      clear hw0 b0 b1 b2 b3 hB0
      have hkc : k ≤ cap := by omega
      have HC1 := Lib.hid (fun W (hW : Below w0.heap.size w0 W) => SlV.cutHi CellR.cells_len ((HV.out.below HBW0.out).below hW) k hk _ rfl)
      have HC2 := Lib.hid (fun W (hW : Below w0.heap.size w0 W) => SlV.cutLo CellR.cells_len ((HV.out.below HBW0.out).below hW) k hk)
      have HL1 : Hid ((flat CellR.cells (l.take k)).length = k * 4) := Lib.hid (by rw [flat_len CellR.cells 4 CellR.cells_len, List.length_take, HN.out, Nat.min_eq_left hk])
      have HL2 : Hid ((flat CellR.cells (l.drop k)).length = (n - k) * 4) := Lib.hid (by rw [flat_len CellR.cells 4 CellR.cells_len, List.length_drop, HN.out])
      have HKB : Hid (∀ W, Below w0.heap.size w0 W → W.cell? ⟨w.heap.size, 0, none⟩ = some (.string c.ver.key) ∧ W.cell? ⟨w.heap.size, 1, none⟩ = some (.int .i64 c.ver.seq) ∧ W.cell? ⟨w.heap.size, 2, none⟩ = some (.int .i64 c.ver.kind) ∧ W.cell? ⟨w.heap.size, 3, none⟩ = some (.string c.val)) := Lib.hid (fun W hW => by
        have hb := box_below HB0.out hW hw0l
        exact ⟨hb.key, hb.seq, hb.kind, hb.val⟩)
      have HG1 : Hid (∀ (W wa : World) (g : Nat), (Below w0.heap.size w0 W ∧ w0.heap.size < W.heap.size) → w0.heap.size ≤ g → W.grownBy wa (Value.slice (some ⟨g, 0, none⟩) 0 0).ownBlock → Below w0.heap.size w0 wa ∧ w0.heap.size < wa.heap.size) := Lib.hid (fun W wa g hW hg hga => ⟨hW.1.grown hga hW.1.size (fun k hk => by simp [Value.ownBlock] at hk; omega), Nat.lt_of_lt_of_le hW.2 hga.size⟩)
      have HG2 : Hid (∀ (W wb : World) (v : Value) (B : Nat), Below w0.heap.size w0 W → (∀ g, v.ownBlock = some g → w0.heap.size ≤ g) → W.grownBy wb v.ownBlock → Below w0.heap.size w0 wb) := Lib.hid (fun W wb v _ hW hg hga => hW.grown hga hW.size hg)
      go_wp2_with fail
      go_region_law
        (first
        | (refine step_append_view _ rfl (some 26) (by rfl) (.tmp 22) (.tmp 25) 22 (by rfl) w0.heap.size 42 i0 (.agg #[.string ⟨#[]⟩, .int .i64 0, .int .i64 0, .string ⟨#[]⟩]) 4 48 Try.underlying22 hi hz0 hz1 hz2 rfl (by decide) (.slice (some ⟨w0.heap.size, 0, none⟩) 0 0) 0 [] (by rfl) ?_ ao k cap (flat CellR.cells (l.take k)) (by rfl) HL1.out ?_ ?_ (flat_one CellR.cells CellR.cells_one _) (by unfold maxLen; omega) (by omega) ?_ ?_; exact Has.empty _ _ _ _ _ (by omega) (by simp <;> omega) rfl; exact (SlV.row (HC1.out w0 (Below.refl _ _))).1; (first | exact (SlV.row (HC1.out _ (bel_a1 _ _))).2 | exact (SlV.row (HC1.out _ (bel_a2 _ _ _))).2); (first | exact (bel_a1 _ _).size | exact (bel_a2 _ _ _).size); intro va wa ha ga na; obtain ⟨hbA, hsA⟩ := HG1.out _ _ _ (by first | exact ⟨bel_a1 _ _, by simp <;> omega⟩ | exact ⟨bel_a2 _ _ _, by simp <;> omega⟩) (Nat.le_refl _) ga; obtain ⟨f0, f1, f2, f3⟩ := HKB.out wa hbA)
        | (refine step_append_view _ rfl (some 26) (by rfl) (.tmp 22) (.tmp 25) 22 (by rfl) w0.heap.size 42 i0 (.agg #[.string ⟨#[]⟩, .int .i64 0, .int .i64 0, .string ⟨#[]⟩]) 4 48 Try.underlying22 hi hz0 hz1 hz2 rfl (by decide) (.slice (some ⟨w0.heap.size + 1, 0, none⟩) 0 0) 0 [] (by rfl) ?_ ao k cap (flat CellR.cells (l.take k)) (by rfl) HL1.out ?_ ?_ (flat_one CellR.cells CellR.cells_one _) (by unfold maxLen; omega) (by omega) ?_ ?_; exact Has.empty _ _ _ _ _ (by omega) (by simp <;> omega) rfl; exact (SlV.row (HC1.out w0 (Below.refl _ _))).1; (first | exact (SlV.row (HC1.out _ (bel_a1 _ _))).2 | exact (SlV.row (HC1.out _ (bel_a2 _ _ _))).2); (first | exact (bel_a1 _ _).size | exact (bel_a2 _ _ _).size); intro va wa ha ga na; obtain ⟨hbA, hsA⟩ := HG1.out _ _ _ (by first | exact ⟨bel_a1 _ _, by simp <;> omega⟩ | exact ⟨bel_a2 _ _ _, by simp <;> omega⟩) (Nat.le_succ _) ga; obtain ⟨f0, f1, f2, f3⟩ := HKB.out wa hbA)
        | (refine step_append_view _ rfl (some 29) (by rfl) (.tmp 26) (.tmp 28) 22 (by rfl) w0.heap.size 42 i0 (.agg #[.string ⟨#[]⟩, .int .i64 0, .int .i64 0, .string ⟨#[]⟩]) 4 48 Try.underlying22 hi hz0 hz1 hz2 rfl (by decide) va (0 + k) ([] ++ flat CellR.cells (l.take k)) (by rfl) ?_ (some ⟨_, 0, none⟩) 1 1 c.cells (by rfl) (by rfl) (fun e => by cases e) ?_ (CellR.cells_one c) (by unfold maxLen; omega) (by omega) ?_ ?_; (first | exact ha | exact ha.alloc _); (intro ad had; cases had; first | exact news_cell _ _ c (by simp [go_sem]) (by simp [go_sem]) (by simp [go_sem]) (by simp [go_sem]) | (exact news_cell _ _ c (by rw [World.cell?_of_block (ga.block _ (by simp <;> omega) (by simp [Value.ownBlock] <;> omega))]; simp [go_sem]) (by rw [World.cell?_of_block (ga.block _ (by simp <;> omega) (by simp [Value.ownBlock] <;> omega))]; simp [go_sem]) (by rw [World.cell?_of_block (ga.block _ (by simp <;> omega) (by simp [Value.ownBlock] <;> omega))]; simp [go_sem]) (by rw [World.cell?_of_block (ga.block _ (by simp <;> omega) (by simp [Value.ownBlock] <;> omega))]; simp [go_sem]))); (first | exact hbA.size | exact (hbA.alloc hbA.size _).size); intro vb wb hb gb nb; have hbB := HG2.out _ _ _ 0 (by first | exact hbA | exact hbA.alloc hbA.size _) (fun g hg => (ha.lt g hg).1) gb)
        | (refine step_append_view _ rfl (some 33) (by rfl) (.tmp 29) (.tmp 32) 22 (by rfl) w0.heap.size 42 i0 (.agg #[.string ⟨#[]⟩, .int .i64 0, .int .i64 0, .string ⟨#[]⟩]) 4 48 Try.underlying22 hi hz0 hz1 hz2 rfl (by decide) vb (0 + k + 1) ([] ++ flat CellR.cells (l.take k) ++ c.cells) (by rfl) hb (if cap = k then ao else ao.map (·.add (k * 4))) (n - k) (cap - k) (flat CellR.cells (l.drop k)) (by rfl) HL2.out (SlV.row (HC2.out w0 (Below.refl _ _))).1 (SlV.row (HC2.out _ hbB)).2 (flat_one CellR.cells CellR.cells_one _) (by unfold maxLen; omega) (by omega) hbB.size ?_; intro vc wc hc gc nc))
      all_goals
        have HF := Lib.hid (And.intro hc (HG2.out wb wc vb 0 hbB (fun g hg => (hb.lt g hg).1) gc))
        clear ha ga na hb gb nb hc gc nc hbA hbB hsA f0 f1 f2 f3
        go_wp2
        all_goals
          go_ret
          obtain ⟨hc, hbC⟩ := HF.out
          refine ⟨vc, k, rfl, by rw [HN.out]; exact hk, HL.out, HE.out, ?_, HBW0.out.trans (hbC.mono HBW0.out.size)⟩
          have e1 : 0 + k + 1 + (n - k) = l.length + 1 := by rw [HN.out]; omega
          have e2 : [] ++ flat CellR.cells (l.take k) ++ c.cells ++ flat CellR.cells (l.drop k) = flat CellR.cells (l.take k ++ (c :: l.drop k)) := by rw [flat_app, flat_cons]; simp
          rw [e1, e2] at hc
          exact hc.base_le HBW0.out.size
end Go.Proofs.Ytcgkpgjjifggcaa
