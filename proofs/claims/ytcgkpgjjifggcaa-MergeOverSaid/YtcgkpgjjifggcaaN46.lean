/-
  Merge: contract of the document's DocLast.
-/
import Derived.Test.YtcgkpgjjifggcaaN45
import Derived.Test.YtcgkpgjjifggcaaN18
namespace Go.Proofs.Ytcgkpgjjifggcaa
set_option linter.unusedVariables false
set_option linter.unusedSimpArgs false
open Go.RowKit Sl

abbrev lastP (l : List OpR) : List OpR := Pl.docLast bl OpR.key l
theorem lastP_drop (ops : List OpR) (k : Nat) (o : OpR) (h : ops[k]? = some o) : lastP (ops.drop k) = Pl.last1 bl OpR.key o (lastP (ops.drop (k + 1))) := by
  obtain ⟨hk, rfl⟩ := List.getElem?_eq_some_iff.1 h
  rw [List.drop_eq_getElem_cons hk]
  rfl
theorem last1_len (o : OpR) (l : List OpR) (h : Pl.Srt OpR.key bl l) (i : Nat) (hi : i ≤ l.length) : (l.take i ++ (o :: l.drop i)).length = l.length + 1 := by
  rw [List.length_append, List.length_cons, List.length_take, List.length_drop]
  omega
def seenP (o : OpR) (l : List OpR) : Bool := l.any (fun x => decide (x.key = o.key))
theorem seenP_snoc (o : OpR) (T : List OpR) (j : Nat) (x : OpR) (h : T[j]? = some x) : seenP o (T.take (j + 1)) = (seenP o (T.take j) || decide (x.key = o.key)) := by
  unfold seenP
  rw [take_snocG T j x h, List.any_append]
  simp

set_option maxRecDepth 100000 in
set_option maxHeartbeats 12800000 in
theorem docLast_ok (v : Value) (ops : List OpR) (S : Nat → Prop) (w : World) (h : SlV OpR.cells w S v ops) (n : Nat) (hn : ops.length = n) (hbig : n ≤ 1000) :
    Calls Try.prog 25 #[v] w fun e w' => ∃ a c m, e = .returned (.slice a m c) ∧ (lastP ops).length = m ∧ m ≤ n ∧ Has w' w.heap.size 3 (.slice a m c) m (flat OpR.cells (lastP ops)) ∧ Below w.heap.size w w' := by
  obtain ⟨i0, hi, hz0, hz1, hz2⟩ := info_parts Try.infoOp
  obtain ⟨ao, cap, hv⟩ := h.shape
  rw [hn] at hv
  subst hv
  obtain ⟨-, h2, h3⟩ := SlV.len h
  unfold maxLen at h3
  have HV := Lib.hid h
  have HN := Lib.hid hn
  clear h hn
  go_enter Try.func25, Try.ntmps25
  go_wp2_with fail
  go_loopg [3, 4] n (fun g s3 s4 wr => ∃ (k : Nat) (T : List OpR) (a : Option Addr) (t c : Nat), g = k ∧ s4 = .int .i64 ((k : Int) - 1) ∧ k ≤ n ∧ s3 = .slice a t c ∧ t ≤ n - k ∧ Hid (lastP (ops.drop k) = T) ∧ Hid (T.length = t) ∧ Hid (Has wr w.heap.size 3 (.slice a t c) t (flat OpR.cells T)) ∧ Hid (Below w.heap.size w wr))
  case atStart => exact ⟨n, [], none, 0, 0, rfl, by go_num, Nat.le_refl _, rfl, by omega, Lib.hid (by rw [List.drop_of_length_le (by rw [HN.out]; exact Nat.le_refl _)]; rfl), Lib.hid rfl, Lib.hid (Has.nil _ _ _), Lib.hid (Below.refl _ _)⟩
  case round =>
    obtain ⟨k, T, a3, t, c3, rfl, rfl, hk, rfl, ht, HT, HTL, HH, HW⟩ := hrel
    cases gk with
    | zero =>
      go_wp2
      go_ret
      exact ⟨a3, c3, t, rfl, by rw [← HTL.out, ← HT.out, List.drop_zero], by omega, by have h1 := HT.out; rw [List.drop_zero] at h1; rw [h1]; exact HH.out, HW.out⟩
    | succ k =>
      have ek : (((k + 1 : Nat) : Int) - 1) = (k : Int) := by omega
      simp only [ek]
      have hk0 : (0 : Int) ≤ (k : Int) := by omega
      have hkn : (k : Int) < (n : Int) := by omega
      obtain ⟨b2, o2, rfl, -, hbl2, hcs2⟩ := OV.of (HV.out.below HW.out) (by omega)
      obtain ⟨o, ho⟩ : ∃ o, ops[k]? = some o := ⟨_, List.getElem?_eq_getElem (by have := HN.out; omega)⟩
      obtain ⟨wo, hwo⟩ : ∃ wo : World, wo = wr := ⟨_, rfl⟩
      subst hwo
      have HLD := Lib.hid (lastP_drop ops k o ho)
      have HOC := Lib.hid (hcs2 k o ho)
      obtain ⟨z1, z2, z3⟩ := hcs2 k o ho
      have HST : Hid (Pl.Srt OpR.key bl T) := Lib.hid (HT.out ▸ Pl.docLast_srt bl OpR.key bl_ord _)
      have HTV : Hid (SlV OpR.cells wo (fun _ => False) (.slice a3 t c3) T) := Lib.hid (by
        have q := HH.out
        rw [← HTL.out] at q ⊢
        exact (SlV.of_has q).mono (fun _ h => h.elim))
      clear hcs2 ho ek
      go_wp2_with fail
      go_loopg [5, 6] t (fun g s5 s6 wi => ∃ (j d : Nat) (f : Bool), g = t - j ∧ s5 = .int .i64 (j : Nat) ∧ j ≤ t ∧ s6 = .bool f ∧ Hid (∀ x ∈ T.take j, bl o.key x.key = false) ∧ Hid (seenP o (T.take j) = f) ∧ wi = wo.drewN d)
      case atStart => exact ⟨0, 0, false, by omega, rfl, Nat.zero_le _, rfl, Lib.hid (fun x hx => by simp at hx), Lib.hid rfl, rfl⟩
      case round =>
        obtain ⟨j, d, f, rfl, rfl, hj, rfl, HLO, HSE, hwi⟩ := hrel
        subst hwi
        by_cases hjt : j < t
        · have hjI : (j : Int) < t := by omega
          have hj0 : (0 : Int) ≤ (j : Int) := by omega
          obtain ⟨b1, o1, rfl, -, hbl1, hcs1⟩ := OV.of HTV.out (by omega)
          obtain ⟨x, hx⟩ : ∃ x, T[j]? = some x := ⟨_, List.getElem?_eq_getElem (by have := HTL.out; omega)⟩
          obtain ⟨x1, x2, x3⟩ := hcs1 j x hx
          have HX := Lib.hid hx
          have HSN := Lib.hid (seenP_snoc o T j x hx)
          clear hcs1 hx hbl1
          rcases bl_ord.tri x.key o.key with hc9 | hc9 | hc9
          · have hgf : bl o.key x.key = false := bl_ord.asym _ _ hc9
            have hkk : ¬ x.key = o.key := fun e => by rw [e, bl_ord.irr] at hc9; cases hc9
            have hl1 : Op.bytesLess x.key.toList o.key.toList = true := hc9
            have hl2 : (x.key.toList == o.key.toList) = false := beq_eq_false_iff_ne.2 (fun e => hkk (ofList_inj _ _ e))
            have HLO2 : Hid (∀ y ∈ T.take (j + 1), bl o.key y.key = false) := Lib.hid (fun y hy => by
              rw [take_snocG T j x HX.out] at hy
              rcases List.mem_append.1 hy with hy | hy
              · exact HLO.out y hy
              · obtain rfl : y = x := by simpa using hy
                exact hgf)
            have HSE2 : Hid (seenP o (T.take (j + 1)) = f) := Lib.hid (by rw [HSN.out, HSE.out, decide_eq_false hkk, Bool.or_false])
            clear hgf hkk hc9
            cases f with
            | true =>
              go_wp2_with fail
              go_quiet (fail)
              go_wp2_with fail
              go_quiet (fail)
              go_wp2
              go_roundg (t - (j + 1))
              case measure => omega
              case rel => exact ⟨j + 1, _, true, rfl, by go_num, by omega, rfl, HLO2, HSE2, rfl⟩
            | false =>
              go_wp2_with fail
              go_quiet (fail)
              go_wp2_with fail
              go_quiet (fail)
              go_wp2
              go_roundg (t - (j + 1))
              case measure => omega
              case rel => exact ⟨j + 1, _, false, rfl, by go_num, by omega, rfl, HLO2, HSE2, rfl⟩
          · have hgf : bl o.key x.key = false := by rw [hc9]; exact bl_ord.irr _
            have hl1 : Op.bytesLess x.key.toList o.key.toList = false := by rw [hc9]; exact bl_ord.irr _
            have hl2 : (x.key.toList == o.key.toList) = true := by rw [hc9]; simp
            have HLO2 : Hid (∀ y ∈ T.take (j + 1), bl o.key y.key = false) := Lib.hid (fun y hy => by
              rw [take_snocG T j x HX.out] at hy
              rcases List.mem_append.1 hy with hy | hy
              · exact HLO.out y hy
              · obtain rfl : y = x := by simpa using hy
                exact hgf)
            have HSE2 : Hid (seenP o (T.take (j + 1)) = true) := Lib.hid (by rw [HSN.out, HSE.out, decide_eq_true hc9, Bool.or_true])
            clear hgf hc9
            cases f with
            | true =>
              go_wp2_with fail
              go_quiet (fail)
              go_wp2_with fail
              go_quiet (fail)
              go_wp2
              go_roundg (t - (j + 1))
              case measure => omega
              case rel => exact ⟨j + 1, _, true, rfl, by go_num, by omega, rfl, HLO2, HSE2, rfl⟩
            | false =>
              go_wp2_with fail
              go_quiet (fail)
              go_wp2_with fail
              go_quiet (fail)
              go_wp2
              go_roundg (t - (j + 1))
              case measure => omega
              case rel => exact ⟨j + 1, _, true, rfl, by go_num, by omega, rfl, HLO2, HSE2, rfl⟩
          · have hl1 : Op.bytesLess x.key.toList o.key.toList = false := bl_ord.asym _ _ hc9
            have hl2 : (x.key.toList == o.key.toList) = false := beq_eq_false_iff_ne.2 (fun e => by rw [ofList_inj _ _ e, bl_ord.irr] at hc9; cases hc9)
            have HUP : Hid (∀ y r, T.drop j = y :: r → bl o.key y.key = true) := Lib.hid (fun y r hy => by
              have e1 := congrArg (fun l => l[0]?) hy
              simp at e1
              have e2 := HX.out.symm.trans e1
              cases e2
              exact hc9)
            clear hc9
            obtain ⟨a3, hao⟩ : ∃ a : Option Addr, a = some ⟨b1, o1, none⟩ := ⟨_, rfl⟩
            go_wp2_with fail
            go_quiet (fail)
            rw [← hao] at HTV HH ⊢
            clear x1 x2 x3 hao
            have HL1 : Hid (lastP (ops.drop k) = if seenP o (T.take j) = true then T else T.take j ++ (o :: T.drop j)) := Lib.hid (by rw [HLD.out, HT.out]; exact Pl.last1_at bl OpR.key bl_ord o T HST.out j (by rw [HTL.out]; exact hj) HLO.out HUP.out)
            cases f with
            | true =>
              have HT2 : Hid (lastP (ops.drop k) = T) := Lib.hid (by rw [HL1.out, if_pos HSE.out])
              go_wp2
              go_roundg k
              case measure => omega
              case rel => exact ⟨k, T, _, t, c3, rfl, by go_num, by omega, rfl, by omega, HT2, HTL, Lib.hid (has_dn HH.out _), Lib.hid (below_dn HW.out _)⟩
            | false =>
              have HT2 : Hid (lastP (ops.drop k) = T.take j ++ (o :: T.drop j)) := Lib.hid (by rw [HL1.out, if_neg (by rw [HSE.out]; simp)])
              obtain ⟨w0, hw0⟩ : ∃ w0, (wo.drewN d).drewN nq = w0 := ⟨_, rfl⟩
              rw [hw0]
              have hs0 : wo.heap.size = w0.heap.size := by rw [← hw0]; rfl
              have HBO : Hid (Below wo.heap.size wo w0) := Lib.hid (by rw [← hw0]; exact below_dn (below_dn (Below.refl _ _) _) _)
              have HBW0 : Hid (Below w.heap.size w w0) := Lib.hid (HW.out.trans (HBO.out.mono HW.out.size))
              have HTV0 : Hid (SlV OpR.cells w0 (fun _ => False) (.slice a3 t c3) T) := Lib.hid (HTV.out.below HBO.out)
              have hblo : b2 < w0.heap.size := hs0 ▸ hbl2
              have HKB : Hid (∀ W, Below w0.heap.size w0 W → W.cell? ⟨b2, o2 + k * 3, none⟩ = some (.int .i64 o.kind) ∧ W.cell? ⟨b2, o2 + k * 3 + 1, none⟩ = some (.string o.key) ∧ W.cell? ⟨b2, o2 + k * 3 + 2, none⟩ = some (.string o.val)) := Lib.hid (fun W hW => by
                have z := HOC.out
                exact ⟨by rw [hW.cell hblo, HBO.out.cell hbl2]; exact z.1, by rw [hW.cell hblo, HBO.out.cell hbl2]; exact z.2.1, by rw [hW.cell hblo, HBO.out.cell hbl2]; exact z.2.2⟩)
              clear z1 z2 z3 hs0 hw0
              obtain ⟨z1, z2, z3⟩ := HKB.out w0 (Below.refl _ _)
              obtain ⟨-, htc, htm⟩ := SlV.len HTV0.out
              unfold maxLen at htm
              have hkc : j ≤ c3 := by omega
              have HC1 := Lib.hid (fun W (hW : Below w0.heap.size w0 W) => SlV.cutHi OpR.cells_len (HTV0.out.below hW) j hj _ rfl)
              have HC2 := Lib.hid (fun W (hW : Below w0.heap.size w0 W) => SlV.cutLo OpR.cells_len (HTV0.out.below hW) j hj)
              have HL1 : Hid ((flat OpR.cells (T.take j)).length = j * 3) := Lib.hid (by rw [flat_len OpR.cells 3 OpR.cells_len, List.length_take, HTL.out, Nat.min_eq_left hj])
              have HL2 : Hid ((flat OpR.cells (T.drop j)).length = (t - j) * 3) := Lib.hid (by rw [flat_len OpR.cells 3 OpR.cells_len, List.length_drop, HTL.out])
              have HG1 : Hid (∀ (W wa : World) (g : Nat), (Below w0.heap.size w0 W ∧ w0.heap.size < W.heap.size) → w0.heap.size ≤ g → W.grownBy wa (Value.slice (some ⟨g, 0, none⟩) 0 0).ownBlock → Below w0.heap.size w0 wa ∧ w0.heap.size < wa.heap.size) := Lib.hid (fun W wa g hW hg hga => ⟨hW.1.grown hga hW.1.size (fun k hk => by simp [Value.ownBlock] at hk; omega), Nat.lt_of_lt_of_le hW.2 hga.size⟩)
              have HG2 : Hid (∀ (W wb : World) (v : Value) (B : Nat), Below w0.heap.size w0 W → (∀ g, v.ownBlock = some g → w0.heap.size ≤ g) → W.grownBy wb v.ownBlock → Below w0.heap.size w0 wb) := Lib.hid (fun W wb v _ hW hg hga => hW.grown hga hW.size hg)
              go_wp2_with fail
              go_region_law
                (first
                | (refine step_append_view _ rfl (some 53) (by rfl) (.tmp 49) (.tmp 52) 51 (by rfl) w0.heap.size 68 i0 (.agg #[.int .i64 0, .string ⟨#[]⟩, .string ⟨#[]⟩]) 3 40 Try.underlying51 hi hz0 hz1 hz2 rfl (by decide) (.slice (some ⟨w0.heap.size, 0, none⟩) 0 0) 0 [] (by rfl) ?_ a3 j c3 (flat OpR.cells (T.take j)) (by rfl) HL1.out ?_ ?_ (flat_one OpR.cells OpR.cells_one _) (by unfold maxLen; omega) (by omega) ?_ ?_; exact Has.empty _ _ _ _ _ (by omega) (by simp <;> omega) rfl; exact (SlV.row (HC1.out w0 (Below.refl _ _))).1; (first | exact (SlV.row (HC1.out _ (bel_a1 _ _))).2 | exact (SlV.row (HC1.out _ (bel_a2 _ _ _))).2); (first | exact (bel_a1 _ _).size | exact (bel_a2 _ _ _).size); intro va wa ha ga na; obtain ⟨hbA, hsA⟩ := HG1.out _ _ _ (by first | exact ⟨bel_a1 _ _, by simp <;> omega⟩ | exact ⟨bel_a2 _ _ _, by simp <;> omega⟩) (Nat.le_refl _) ga; obtain ⟨f0, f1, f2⟩ := HKB.out wa hbA)
                | (refine step_append_view _ rfl (some 53) (by rfl) (.tmp 49) (.tmp 52) 51 (by rfl) w0.heap.size 68 i0 (.agg #[.int .i64 0, .string ⟨#[]⟩, .string ⟨#[]⟩]) 3 40 Try.underlying51 hi hz0 hz1 hz2 rfl (by decide) (.slice (some ⟨w0.heap.size + 1, 0, none⟩) 0 0) 0 [] (by rfl) ?_ a3 j c3 (flat OpR.cells (T.take j)) (by rfl) HL1.out ?_ ?_ (flat_one OpR.cells OpR.cells_one _) (by unfold maxLen; omega) (by omega) ?_ ?_; exact Has.empty _ _ _ _ _ (by omega) (by simp <;> omega) rfl; exact (SlV.row (HC1.out w0 (Below.refl _ _))).1; (first | exact (SlV.row (HC1.out _ (bel_a1 _ _))).2 | exact (SlV.row (HC1.out _ (bel_a2 _ _ _))).2); (first | exact (bel_a1 _ _).size | exact (bel_a2 _ _ _).size); intro va wa ha ga na; obtain ⟨hbA, hsA⟩ := HG1.out _ _ _ (by first | exact ⟨bel_a1 _ _, by simp <;> omega⟩ | exact ⟨bel_a2 _ _ _, by simp <;> omega⟩) (Nat.le_succ _) ga; obtain ⟨f0, f1, f2⟩ := HKB.out wa hbA)
                | (refine step_append_view _ rfl (some 59) (by rfl) (.tmp 53) (.tmp 58) 51 (by rfl) w0.heap.size 68 i0 (.agg #[.int .i64 0, .string ⟨#[]⟩, .string ⟨#[]⟩]) 3 40 Try.underlying51 hi hz0 hz1 hz2 rfl (by decide) va (0 + j) ([] ++ flat OpR.cells (T.take j)) (by rfl) ?_ (some ⟨_, 0, none⟩) 1 1 o.cells (by rfl) (by rfl) (fun e => by cases e) ?_ (OpR.cells_one o) (by unfold maxLen; omega) (by omega) ?_ ?_; (first | exact ha | exact ha.alloc _); (intro ad had; cases had; first | exact news_op _ _ o (by simp [go_sem]) (by simp [go_sem]) (by simp [go_sem]) | (exact news_op _ _ o (by rw [World.cell?_of_block (ga.block _ (by simp <;> omega) (by simp [Value.ownBlock] <;> omega))]; simp [go_sem]) (by rw [World.cell?_of_block (ga.block _ (by simp <;> omega) (by simp [Value.ownBlock] <;> omega))]; simp [go_sem]) (by rw [World.cell?_of_block (ga.block _ (by simp <;> omega) (by simp [Value.ownBlock] <;> omega))]; simp [go_sem]))); (first | exact hbA.size | exact (hbA.alloc hbA.size _).size); intro vb wb hb gb nb; have hbB := HG2.out _ _ _ 0 (by first | exact hbA | exact hbA.alloc hbA.size _) (fun g hg => (ha.lt g hg).1) gb)
                | (refine step_append_view _ rfl (some 63) (by rfl) (.tmp 59) (.tmp 62) 51 (by rfl) w0.heap.size 68 i0 (.agg #[.int .i64 0, .string ⟨#[]⟩, .string ⟨#[]⟩]) 3 40 Try.underlying51 hi hz0 hz1 hz2 rfl (by decide) vb (0 + j + 1) ([] ++ flat OpR.cells (T.take j) ++ o.cells) (by rfl) hb (if c3 = j then a3 else a3.map (·.add (j * 3))) (t - j) (c3 - j) (flat OpR.cells (T.drop j)) (by rfl) HL2.out (SlV.row (HC2.out w0 (Below.refl _ _))).1 (SlV.row (HC2.out _ hbB)).2 (flat_one OpR.cells OpR.cells_one _) (by unfold maxLen; omega) (by omega) hbB.size ?_; intro vc wc hc gc nc))
              all_goals
                obtain ⟨a8, c8, rfl, -⟩ := hc.shape
                have HF := Lib.hid (And.intro hc (HG2.out wb _ vb 0 hbB (fun g hg => (hb.lt g hg).1) gc))
                clear ha ga na hb gb nb hc gc nc hbA hbB hsA f0 f1 f2
                have e1 : 0 + j + 1 + (t - j) = t + 1 := by omega
                have e2 : [] ++ flat OpR.cells (T.take j) ++ o.cells ++ flat OpR.cells (T.drop j) = flat OpR.cells (T.take j ++ (o :: T.drop j)) := by rw [flat_app, flat_cons]; simp
                rw [e1, e2] at HF
                rw [e1]
                go_wp2
                all_goals
                  go_roundg k
                  case measure => omega
                  case rel => exact ⟨k, _, a8, t + 1, c8, rfl, by go_num, by omega, rfl, by omega, HT2, Lib.hid (by rw [List.length_append, List.length_cons, List.length_take, List.length_drop, HTL.out]; omega), Lib.hid (HF.out.1.base_le HBW0.out.size), Lib.hid (HBW0.out.trans (HF.out.2.mono HBW0.out.size))⟩
        · have hgej : decide ((j : Int) < t) = false := by simp; omega
          have HUP : Hid (∀ y r, T.drop j = y :: r → bl o.key y.key = true) := Lib.hid (fun y r hy => by
            rw [List.drop_of_length_le (by rw [HTL.out]; omega)] at hy
            cases hy)
          go_wp2_with fail
          go_quiet (fail)
          have HL1 : Hid (lastP (ops.drop k) = if seenP o (T.take j) = true then T else T.take j ++ (o :: T.drop j)) := Lib.hid (by rw [HLD.out, HT.out]; exact Pl.last1_at bl OpR.key bl_ord o T HST.out j (by rw [HTL.out]; exact hj) HLO.out HUP.out)
          cases f with
          | true =>
            have HT2 : Hid (lastP (ops.drop k) = T) := Lib.hid (by rw [HL1.out, if_pos HSE.out])
            go_wp2
            go_roundg k
            case measure => omega
            case rel => exact ⟨k, T, _, t, c3, rfl, by go_num, by omega, rfl, by omega, HT2, HTL, Lib.hid (has_dn HH.out _), Lib.hid (below_dn HW.out _)⟩
          | false =>
            have HT2 : Hid (lastP (ops.drop k) = T.take j ++ (o :: T.drop j)) := Lib.hid (by rw [HL1.out, if_neg (by rw [HSE.out]; simp)])
            obtain ⟨w0, hw0⟩ : ∃ w0, (wo.drewN d).drewN nq = w0 := ⟨_, rfl⟩
            rw [hw0]
            have hs0 : wo.heap.size = w0.heap.size := by rw [← hw0]; rfl
            have HBO : Hid (Below wo.heap.size wo w0) := Lib.hid (by rw [← hw0]; exact below_dn (below_dn (Below.refl _ _) _) _)
            have HBW0 : Hid (Below w.heap.size w w0) := Lib.hid (HW.out.trans (HBO.out.mono HW.out.size))
            have HTV0 : Hid (SlV OpR.cells w0 (fun _ => False) (.slice a3 t c3) T) := Lib.hid (HTV.out.below HBO.out)
            have hblo : b2 < w0.heap.size := hs0 ▸ hbl2
            have HKB : Hid (∀ W, Below w0.heap.size w0 W → W.cell? ⟨b2, o2 + k * 3, none⟩ = some (.int .i64 o.kind) ∧ W.cell? ⟨b2, o2 + k * 3 + 1, none⟩ = some (.string o.key) ∧ W.cell? ⟨b2, o2 + k * 3 + 2, none⟩ = some (.string o.val)) := Lib.hid (fun W hW => by
              have z := HOC.out
              exact ⟨by rw [hW.cell hblo, HBO.out.cell hbl2]; exact z.1, by rw [hW.cell hblo, HBO.out.cell hbl2]; exact z.2.1, by rw [hW.cell hblo, HBO.out.cell hbl2]; exact z.2.2⟩)
            clear z1 z2 z3 hs0 hw0
            obtain ⟨z1, z2, z3⟩ := HKB.out w0 (Below.refl _ _)
            obtain ⟨-, htc, htm⟩ := SlV.len HTV0.out
            unfold maxLen at htm
            have hkc : j ≤ c3 := by omega
            have HC1 := Lib.hid (fun W (hW : Below w0.heap.size w0 W) => SlV.cutHi OpR.cells_len (HTV0.out.below hW) j hj _ rfl)
            have HC2 := Lib.hid (fun W (hW : Below w0.heap.size w0 W) => SlV.cutLo OpR.cells_len (HTV0.out.below hW) j hj)
            have HL1 : Hid ((flat OpR.cells (T.take j)).length = j * 3) := Lib.hid (by rw [flat_len OpR.cells 3 OpR.cells_len, List.length_take, HTL.out, Nat.min_eq_left hj])
            have HL2 : Hid ((flat OpR.cells (T.drop j)).length = (t - j) * 3) := Lib.hid (by rw [flat_len OpR.cells 3 OpR.cells_len, List.length_drop, HTL.out])
            have HG1 : Hid (∀ (W wa : World) (g : Nat), (Below w0.heap.size w0 W ∧ w0.heap.size < W.heap.size) → w0.heap.size ≤ g → W.grownBy wa (Value.slice (some ⟨g, 0, none⟩) 0 0).ownBlock → Below w0.heap.size w0 wa ∧ w0.heap.size < wa.heap.size) := Lib.hid (fun W wa g hW hg hga => ⟨hW.1.grown hga hW.1.size (fun k hk => by simp [Value.ownBlock] at hk; omega), Nat.lt_of_lt_of_le hW.2 hga.size⟩)
            have HG2 : Hid (∀ (W wb : World) (v : Value) (B : Nat), Below w0.heap.size w0 W → (∀ g, v.ownBlock = some g → w0.heap.size ≤ g) → W.grownBy wb v.ownBlock → Below w0.heap.size w0 wb) := Lib.hid (fun W wb v _ hW hg hga => hW.grown hga hW.size hg)
            go_wp2_with fail
            go_region_law
              (first
              | (refine step_append_view _ rfl (some 53) (by rfl) (.tmp 49) (.tmp 52) 51 (by rfl) w0.heap.size 68 i0 (.agg #[.int .i64 0, .string ⟨#[]⟩, .string ⟨#[]⟩]) 3 40 Try.underlying51 hi hz0 hz1 hz2 rfl (by decide) (.slice (some ⟨w0.heap.size, 0, none⟩) 0 0) 0 [] (by rfl) ?_ a3 j c3 (flat OpR.cells (T.take j)) (by rfl) HL1.out ?_ ?_ (flat_one OpR.cells OpR.cells_one _) (by unfold maxLen; omega) (by omega) ?_ ?_; exact Has.empty _ _ _ _ _ (by omega) (by simp <;> omega) rfl; exact (SlV.row (HC1.out w0 (Below.refl _ _))).1; (first | exact (SlV.row (HC1.out _ (bel_a1 _ _))).2 | exact (SlV.row (HC1.out _ (bel_a2 _ _ _))).2); (first | exact (bel_a1 _ _).size | exact (bel_a2 _ _ _).size); intro va wa ha ga na; obtain ⟨hbA, hsA⟩ := HG1.out _ _ _ (by first | exact ⟨bel_a1 _ _, by simp <;> omega⟩ | exact ⟨bel_a2 _ _ _, by simp <;> omega⟩) (Nat.le_refl _) ga; obtain ⟨f0, f1, f2⟩ := HKB.out wa hbA)
              | (refine step_append_view _ rfl (some 53) (by rfl) (.tmp 49) (.tmp 52) 51 (by rfl) w0.heap.size 68 i0 (.agg #[.int .i64 0, .string ⟨#[]⟩, .string ⟨#[]⟩]) 3 40 Try.underlying51 hi hz0 hz1 hz2 rfl (by decide) (.slice (some ⟨w0.heap.size + 1, 0, none⟩) 0 0) 0 [] (by rfl) ?_ a3 j c3 (flat OpR.cells (T.take j)) (by rfl) HL1.out ?_ ?_ (flat_one OpR.cells OpR.cells_one _) (by unfold maxLen; omega) (by omega) ?_ ?_; exact Has.empty _ _ _ _ _ (by omega) (by simp <;> omega) rfl; exact (SlV.row (HC1.out w0 (Below.refl _ _))).1; (first | exact (SlV.row (HC1.out _ (bel_a1 _ _))).2 | exact (SlV.row (HC1.out _ (bel_a2 _ _ _))).2); (first | exact (bel_a1 _ _).size | exact (bel_a2 _ _ _).size); intro va wa ha ga na; obtain ⟨hbA, hsA⟩ := HG1.out _ _ _ (by first | exact ⟨bel_a1 _ _, by simp <;> omega⟩ | exact ⟨bel_a2 _ _ _, by simp <;> omega⟩) (Nat.le_succ _) ga; obtain ⟨f0, f1, f2⟩ := HKB.out wa hbA)
              | (refine step_append_view _ rfl (some 59) (by rfl) (.tmp 53) (.tmp 58) 51 (by rfl) w0.heap.size 68 i0 (.agg #[.int .i64 0, .string ⟨#[]⟩, .string ⟨#[]⟩]) 3 40 Try.underlying51 hi hz0 hz1 hz2 rfl (by decide) va (0 + j) ([] ++ flat OpR.cells (T.take j)) (by rfl) ?_ (some ⟨_, 0, none⟩) 1 1 o.cells (by rfl) (by rfl) (fun e => by cases e) ?_ (OpR.cells_one o) (by unfold maxLen; omega) (by omega) ?_ ?_; (first | exact ha | exact ha.alloc _); (intro ad had; cases had; first | exact news_op _ _ o (by simp [go_sem]) (by simp [go_sem]) (by simp [go_sem]) | (exact news_op _ _ o (by rw [World.cell?_of_block (ga.block _ (by simp <;> omega) (by simp [Value.ownBlock] <;> omega))]; simp [go_sem]) (by rw [World.cell?_of_block (ga.block _ (by simp <;> omega) (by simp [Value.ownBlock] <;> omega))]; simp [go_sem]) (by rw [World.cell?_of_block (ga.block _ (by simp <;> omega) (by simp [Value.ownBlock] <;> omega))]; simp [go_sem]))); (first | exact hbA.size | exact (hbA.alloc hbA.size _).size); intro vb wb hb gb nb; have hbB := HG2.out _ _ _ 0 (by first | exact hbA | exact hbA.alloc hbA.size _) (fun g hg => (ha.lt g hg).1) gb)
              | (refine step_append_view _ rfl (some 63) (by rfl) (.tmp 59) (.tmp 62) 51 (by rfl) w0.heap.size 68 i0 (.agg #[.int .i64 0, .string ⟨#[]⟩, .string ⟨#[]⟩]) 3 40 Try.underlying51 hi hz0 hz1 hz2 rfl (by decide) vb (0 + j + 1) ([] ++ flat OpR.cells (T.take j) ++ o.cells) (by rfl) hb (if c3 = j then a3 else a3.map (·.add (j * 3))) (t - j) (c3 - j) (flat OpR.cells (T.drop j)) (by rfl) HL2.out (SlV.row (HC2.out w0 (Below.refl _ _))).1 (SlV.row (HC2.out _ hbB)).2 (flat_one OpR.cells OpR.cells_one _) (by unfold maxLen; omega) (by omega) hbB.size ?_; intro vc wc hc gc nc))
            all_goals
              obtain ⟨a8, c8, rfl, -⟩ := hc.shape
              have HF := Lib.hid (And.intro hc (HG2.out wb _ vb 0 hbB (fun g hg => (hb.lt g hg).1) gc))
              clear ha ga na hb gb nb hc gc nc hbA hbB hsA f0 f1 f2
              have e1 : 0 + j + 1 + (t - j) = t + 1 := by omega
              have e2 : [] ++ flat OpR.cells (T.take j) ++ o.cells ++ flat OpR.cells (T.drop j) = flat OpR.cells (T.take j ++ (o :: T.drop j)) := by rw [flat_app, flat_cons]; simp
              rw [e1, e2] at HF
              rw [e1]
              go_wp2
              all_goals
                go_roundg k
                case measure => omega
                case rel => exact ⟨k, _, a8, t + 1, c8, rfl, by go_num, by omega, rfl, by omega, HT2, Lib.hid (by rw [List.length_append, List.length_cons, List.length_take, List.length_drop, HTL.out]; omega), Lib.hid (HF.out.1.base_le HBW0.out.size), Lib.hid (HBW0.out.trans (HF.out.2.mono HBW0.out.size))⟩
/-
ARMS for region 10:
        go_region_law
          (first
          | (refine step_append_view _ rfl (some 53) (by rfl) (.tmp 49) (.tmp 52) 51 (by rfl) w0.heap.size 68 i0 (.agg #[.int .i64 0, .string ⟨#[]⟩, .string ⟨#[]⟩]) 3 40 Try.underlying51 hi hz0 hz1 hz2 rfl (by decide) (.slice (some ⟨w0.heap.size, 0, none⟩) 0 0) 0 [] (by rfl) ?_ a3 j c3 (flat OpR.cells (T.take j)) (by rfl) HL1.out ?_ ?_ (flat_one OpR.cells OpR.cells_one _) (by unfold maxLen; omega) (by omega) ?_ ?_; exact Has.empty _ _ _ _ _ (by omega) (by simp <;> omega) rfl; exact (SlV.row (HC1.out w0 (Below.refl _ _))).1; (first | exact (SlV.row (HC1.out _ (bel_a1 _ _))).2 | exact (SlV.row (HC1.out _ (bel_a2 _ _ _))).2); (first | exact (bel_a1 _ _).size | exact (bel_a2 _ _ _).size); intro va wa ha ga na; obtain ⟨hbA, hsA⟩ := HG1.out _ _ _ (by first | exact ⟨bel_a1 _ _, by simp <;> omega⟩ | exact ⟨bel_a2 _ _ _, by simp <;> omega⟩) (Nat.le_refl _) ga; obtain ⟨f0, f1, f2⟩ := HKB.out wa hbA)
          | (refine step_append_view _ rfl (some 53) (by rfl) (.tmp 49) (.tmp 52) 51 (by rfl) w0.heap.size 68 i0 (.agg #[.int .i64 0, .string ⟨#[]⟩, .string ⟨#[]⟩]) 3 40 Try.underlying51 hi hz0 hz1 hz2 rfl (by decide) (.slice (some ⟨w0.heap.size + 1, 0, none⟩) 0 0) 0 [] (by rfl) ?_ a3 j c3 (flat OpR.cells (T.take j)) (by rfl) HL1.out ?_ ?_ (flat_one OpR.cells OpR.cells_one _) (by unfold maxLen; omega) (by omega) ?_ ?_; exact Has.empty _ _ _ _ _ (by omega) (by simp <;> omega) rfl; exact (SlV.row (HC1.out w0 (Below.refl _ _))).1; (first | exact (SlV.row (HC1.out _ (bel_a1 _ _))).2 | exact (SlV.row (HC1.out _ (bel_a2 _ _ _))).2); (first | exact (bel_a1 _ _).size | exact (bel_a2 _ _ _).size); intro va wa ha ga na; obtain ⟨hbA, hsA⟩ := HG1.out _ _ _ (by first | exact ⟨bel_a1 _ _, by simp <;> omega⟩ | exact ⟨bel_a2 _ _ _, by simp <;> omega⟩) (Nat.le_succ _) ga; obtain ⟨f0, f1, f2⟩ := HKB.out wa hbA)
          | (refine step_append_view _ rfl (some 59) (by rfl) (.tmp 53) (.tmp 58) 51 (by rfl) w0.heap.size 68 i0 (.agg #[.int .i64 0, .string ⟨#[]⟩, .string ⟨#[]⟩]) 3 40 Try.underlying51 hi hz0 hz1 hz2 rfl (by decide) va (0 + j) ([] ++ flat OpR.cells (T.take j)) (by rfl) ?_ (some ⟨_, 0, none⟩) 1 1 o.cells (by rfl) (by rfl) (fun e => by cases e) ?_ (OpR.cells_one o) (by unfold maxLen; omega) (by omega) ?_ ?_; (first | exact ha | exact ha.alloc _); (intro ad had; cases had; first | exact news_op _ _ o (by simp [go_sem]) (by simp [go_sem]) (by simp [go_sem]) | (exact news_op _ _ o (by rw [World.cell?_of_block (ga.block _ (by simp <;> omega) (by simp [Value.ownBlock] <;> omega))]; simp [go_sem]) (by rw [World.cell?_of_block (ga.block _ (by simp <;> omega) (by simp [Value.ownBlock] <;> omega))]; simp [go_sem]) (by rw [World.cell?_of_block (ga.block _ (by simp <;> omega) (by simp [Value.ownBlock] <;> omega))]; simp [go_sem]))); (first | exact hbA.size | exact (hbA.alloc hbA.size _).size); intro vb wb hb gb nb; have hbB := HG2.out _ _ _ 0 (by first | exact hbA | exact hbA.alloc hbA.size _) (fun g hg => (ha.lt g hg).1) gb)
          | (refine step_append_view _ rfl (some 63) (by rfl) (.tmp 59) (.tmp 62) 51 (by rfl) w0.heap.size 68 i0 (.agg #[.int .i64 0, .string ⟨#[]⟩, .string ⟨#[]⟩]) 3 40 Try.underlying51 hi hz0 hz1 hz2 rfl (by decide) vb (0 + j + 1) ([] ++ flat OpR.cells (T.take j) ++ o.cells) (by rfl) hb (if c3 = j then a3 else a3.map (·.add (j * 3))) (t - j) (c3 - j) (flat OpR.cells (T.drop j)) (by rfl) HL2.out (SlV.row (HC2.out w0 (Below.refl _ _))).1 (SlV.row (HC2.out _ hbB)).2 (flat_one OpR.cells OpR.cells_one _) (by unfold maxLen; omega) (by omega) hbB.size ?_; intro vc wc hc gc nc))

-/
end Go.Proofs.Ytcgkpgjjifggcaa
