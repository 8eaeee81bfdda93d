/-
  Merge: contract of the document's DocOver.
-/
import Derived.Test.YtcgkpgjjifggcaaN44
import Derived.Test.YtcgkpgjjifggcaaN31
namespace Go.Proofs.Ytcgkpgjjifggcaa
set_option linter.unusedVariables false
set_option linter.unusedSimpArgs false
open Go.RowKit Sl

abbrev stepF (o : OpR) (l : List PairR) : List PairR := Pl.stepOut bl PairR.key OpR.key putP o false l
abbrev stepD (o : OpR) (l : List PairR) : Bool := Pl.stepDone bl PairR.key OpR.key o l
theorem stepF_snoc (o : OpR) (E : List PairR) (j : Nat) (p : PairR) (h : E[j]? = some p) (F : List PairR) (d : Bool) (hF : stepF o (E.take j) = F) (hd : stepD o (E.take j) = d) :
    stepF o (E.take (j + 1)) = F ++ (cond (!d && !bl p.key o.key) (putP o) [] ++ cond (decide (p.key = o.key)) [] [p]) := by
  unfold stepF at *
  rw [take_snocG E j p h, Pl.stepOut_snoc, hF, show Pl.stepDone bl PairR.key OpR.key o (E.take j) = d from hd, Bool.false_or]
theorem stepD_snoc (o : OpR) (E : List PairR) (j : Nat) (p : PairR) (h : E[j]? = some p) (d : Bool) (hd : stepD o (E.take j) = d) : stepD o (E.take (j + 1)) = (d || !bl p.key o.key) := by
  unfold stepD at *
  rw [take_snocG E j p h, Pl.stepDone_snoc, hd]
theorem two_filters (k : ByteArray) : ∀ l : List PairR, (l.filter (fun p => bl p.key k)).length + (l.filter (fun p => bl k p.key)).length ≤ l.length
  | [] => by simp
  | p :: l => by
    have ih := two_filters k l
    cases h1 : bl p.key k with
    | true =>
      have h2 : bl k p.key = false := bl_ord.asym _ _ h1
      rw [List.filter_cons_of_pos (by exact h1), List.filter_cons_of_neg (by rw [h2]; simp)]
      simp only [List.length_cons]
      omega
    | false =>
      rw [List.filter_cons_of_neg (by rw [h1]; simp)]
      cases h2 : bl k p.key with
      | true =>
        rw [List.filter_cons_of_pos (by exact h2)]
        simp only [List.length_cons]
        omega
      | false =>
        rw [List.filter_cons_of_neg (by rw [h2]; simp)]
        simp only [List.length_cons]
        omega
theorem over1_len (l : List PairR) (o : OpR) : (Pl.over1 bl PairR.key OpR.key putP l o).length ≤ l.length + 1 := by
  unfold Pl.over1
  have h1 := two_filters o.key l
  have h2 := putP_len o
  simp only [List.length_append]
  omega

set_option maxRecDepth 100000 in
set_option maxHeartbeats 12800000 in
theorem docOver_ok (v : Value) (l : List PairR) (S : Nat → Prop) (vo : Value) (ops : List OpR) (S' : Nat → Prop) (w : World) (h : SlV PairR.cells w S v l) (ho : SlV OpR.cells w S' vo ops) (hs : Pl.Srt PairR.key bl l) (hb1 : l.length ≤ 1000) (hb2 : ops.length ≤ 1000) (D : List PairR) (mD : Nat) (hD : overP l ops = D) (hmD : D.length = mD) :
    Calls Try.prog 26 #[v, vo] w (PairsPost D mD w) := by
  obtain ⟨i0, hi, hz0, hz1, hz2⟩ := info_parts Try.infoPair
  obtain ⟨ap, cp, hvp⟩ := h.shape
  obtain ⟨ao, cap, hv⟩ := ho.shape
  obtain ⟨n, hn⟩ : ∃ n, ops.length = n := ⟨_, rfl⟩
  obtain ⟨n0, hn0⟩ : ∃ n0, l.length = n0 := ⟨_, rfl⟩
  rw [hn] at hv hb2
  rw [hn0] at hvp hb1
  subst hv hvp
  obtain ⟨-, h2, h3⟩ := SlV.len ho
  unfold maxLen at h3
  have HP := Lib.hid h
  have HV := Lib.hid ho
  have HN := Lib.hid hn
  have HN0 := Lib.hid hn0
  have HD := Lib.hid hD
  have HMD := Lib.hid hmD
  have HSL := Lib.hid hs
  clear ho h hn hn0 hD hmD hs
  go_enter Try.func26, Try.ntmps26
  go_wp2_with (at_builtin; refine wpList_append_view _ rfl (.tmp 10) (.tmp 11) 46 rfl w.heap.size 49 i0 (.agg #[.string ⟨#[]⟩, .string ⟨#[]⟩]) 2 32 Try.underlying46 hi hz0 hz1 hz2 rfl (by decide) (.slice (some ⟨w.heap.size, 0, none⟩) 0 0) 0 [] rfl ?p0 ap n0 cp (flat PairR.cells l) rfl ?p1 ?p2 ?p3 (flat_one PairR.cells PairR.cells_one l) (by unfold maxLen; omega) (by omega) ?p4 ?_)
  case p0 => exact Has.empty _ _ _ _ _ (by omega) (by simp <;> omega) rfl
  case p1 => rw [flat_len PairR.cells 2 PairR.cells_len, HN0.out]
  case p2 => exact (SlV.row HP.out).1
  case p3 => exact (SlV.row (HP.out.below ((Below.refl _ _).alloc (Nat.le_refl _) _))).2
  case p4 => simp
  intro v0 w1 hh1 hg1 hn1
  obtain ⟨a1, c1, rfl, -⟩ := hh1.shape
  have HB1 : Hid (Below w.heap.size w w1) := Lib.hid (((Below.refl _ _).alloc (Nat.le_refl _) _).grown hg1 (by simp) (fun k hk => by simp [Value.ownBlock] at hk; omega))
  have HH1 : Hid (Has w1 w.heap.size 2 (.slice a1 n0 c1) n0 (flat PairR.cells l)) := Lib.hid (by simpa using hh1)
  clear hh1 hg1 hn1
  go_wp2_with fail
  go_loopg [5, 6] n (fun g s5 s6 wr => ∃ (k : Nat) (E : List PairR) (a : Option Addr) (m c : Nat), g = n - k ∧ s6 = .int .i64 (k : Nat) ∧ k ≤ n ∧ s5 = .slice a m c ∧ m ≤ n0 + k ∧ Hid (overP l (ops.take k) = E) ∧ Hid (E.length = m) ∧ Hid (Has wr w.heap.size 2 (.slice a m c) m (flat PairR.cells E)) ∧ Hid (Below w.heap.size w wr))
  case atStart => exact ⟨0, l, a1, n0, c1, by omega, rfl, Nat.zero_le _, rfl, by omega, Lib.hid rfl, HN0, HH1, HB1⟩
  case round =>
    obtain ⟨k, E, a3, m, c3, rfl, rfl, hk, rfl, hmk, HE, HEL, HH, HW⟩ := hrel
    by_cases hlt : k < n
    · have hlt2 : (k : Int) < n := by omega
      have hk0 : (0 : Int) ≤ (k : Int) := by omega
      obtain ⟨b2, o2, rfl, -, hbl2, hcs2⟩ := OV.of (HV.out.below HW.out) (by omega)
      obtain ⟨o, ho⟩ : ∃ o, ops[k]? = some o := ⟨_, List.getElem?_eq_getElem (by have := HN.out; omega)⟩
      obtain ⟨wo, hwo⟩ : ∃ wo : World, wo = wr := ⟨_, rfl⟩
      subst hwo
      have HSK := Lib.hid (overP_snoc l ops k o ho)
      have HOC := Lib.hid (hcs2 k o ho)
      have HBL2 := Lib.hid hbl2
      have HEV : Hid (SlV PairR.cells wo (fun _ => False) (.slice a3 m c3) E) := Lib.hid (by
        have q := HH.out
        rw [← HEL.out] at q ⊢
        exact (SlV.of_has q).mono (fun _ h => h.elim))
      have HSE : Hid (Pl.Srt PairR.key bl E) := Lib.hid (HE.out ▸ overP_srt l HSL.out _)
      have hbase := HW.out.size
      clear hcs2 ho hbl2
      go_wp2_with fail
      go_loopg [7, 8, 9] m (fun g s7 s8 s9 wi => ∃ (j : Nat) (F : List PairR) (a : Option Addr) (q c : Nat) (d : Bool), g = m - j ∧ s9 = .int .i64 (j : Nat) ∧ j ≤ m ∧ s7 = .slice a q c ∧ q ≤ 2 * j ∧ s8 = .bool d ∧ Hid (stepF o (E.take j) = F) ∧ Hid (stepD o (E.take j) = d) ∧ Hid (F.length = q) ∧ Hid (Has wi wo.heap.size 2 (.slice a q c) q (flat PairR.cells F)) ∧ Hid (Below wo.heap.size wo wi))
      case atStart => exact ⟨0, [], none, 0, 0, false, by omega, rfl, Nat.zero_le _, rfl, by omega, rfl, Lib.hid rfl, Lib.hid rfl, Lib.hid rfl, Lib.hid (Has.nil _ _ _), Lib.hid (Below.refl _ _)⟩
      case round =>
        obtain ⟨j, F, a5, q, c5, d, rfl, rfl, hj, rfl, hq, rfl, HF, HDN, HFL, HHF, HWI⟩ := hrel
        by_cases hjm : j < m
        · have hjI : (j : Int) < m := by omega
          obtain ⟨b1, o1, rfl, -, hbl1, hcs1⟩ := PV.of HEV.out (by omega)
          obtain ⟨p, hp⟩ : ∃ p, E[j]? = some p := ⟨_, List.getElem?_eq_getElem (by have := HEL.out; omega)⟩
          have HPC : Hid (∀ W, Below wo.heap.size wo W → W.cell? ⟨b1, o1 + j * 2, none⟩ = some (.string p.key) ∧ W.cell? ⟨b1, o1 + j * 2 + 1, none⟩ = some (.string p.val) ∧ W.cell? ⟨b2, o2 + k * 3, none⟩ = some (.int .i64 o.kind) ∧ W.cell? ⟨b2, o2 + k * 3 + 1, none⟩ = some (.string o.key) ∧ W.cell? ⟨b2, o2 + k * 3 + 2, none⟩ = some (.string o.val)) := Lib.hid (fun W hW => by
            have y := hcs1 j p hp
            have z := HOC.out
            refine ⟨by rw [hW.cell hbl1]; exact y.1, by rw [hW.cell hbl1]; exact y.2, by rw [hW.cell HBL2.out]; exact z.1, by rw [hW.cell HBL2.out]; exact z.2.1, by rw [hW.cell HBL2.out]; exact z.2.2⟩)
          have HFS := Lib.hid (stepF_snoc o E j p hp F d HF.out HDN.out)
          have HDS := Lib.hid (stepD_snoc o E j p hp d HDN.out)
          obtain ⟨x1, x2, x3, x4, x5⟩ := HPC.out wr HWI.out
          have hj0 : (0 : Int) ≤ (j : Int) := by omega
          clear hcs1 hp hbl1
          cases d with
          | true =>
            have HD1 : Hid (stepD o (E.take (j + 1)) = true) := Lib.hid (by rw [HDS.out]; rfl)
            by_cases hkk : p.key = o.key
            · have e3 : (p.key.toList == o.key.toList) = true := by rw [hkk]; simp
              have e4 : (p.key.toList != o.key.toList) = false := by rw [hkk]; simp
              have HT : Hid (stepF o (E.take (j + 1)) = F) := Lib.hid (by rw [HFS.out, decide_eq_true hkk]; simp)
              clear hkk
              go_wp2_with fail
              go_quiet (fail)
              go_wp2_with fail
              go_quiet (fail)
              go_wp2
              go_roundg (m - (j + 1))
              case measure => omega
              case rel => exact ⟨j + 1, F, a5, q, c5, true, rfl, by go_num, by omega, rfl, by omega, rfl, HT, HD1, HFL, Lib.hid (has_dn HHF.out _), Lib.hid (below_dn HWI.out _)⟩
            · have e3 : (p.key.toList == o.key.toList) = false := beq_eq_false_iff_ne.2 (fun e => hkk (ofList_inj _ _ e))
              have e4 : (p.key.toList != o.key.toList) = true := by rw [bne, e3]; rfl
              have HT : Hid (stepF o (E.take (j + 1)) = (F) ++ [p]) := Lib.hid (by rw [HFS.out, decide_eq_false hkk]; simp)
              clear hkk
              go_wp2_with fail
              go_quiet (fail)
              go_wp2_with fail
              go_quiet (fail)
              go_wp2_with (at_builtin; refine wpList_append_at _ rfl (.tmp 71) (.tmp 76) 46 rfl wo.heap.size 49 i0 (.agg #[.string ⟨#[]⟩, .string ⟨#[]⟩]) 2 32 Try.underlying46 hi hz0 hz1 hz2 rfl (by decide) (.slice a5 (q) c5) (q) (flat PairR.cells (F)) rfl (by first | exact (has_dn HHF.out _).alloc _ | exact has_dn (HHF.out.alloc _) _) ⟨_, 0, Option.none⟩ 1 1 (PairR.cells p) rfl rfl ?n1 (PairR.cells_one _) (by unfold maxLen; omega) (by omega) ?n2 ?_)
              case n1 => exact news_freshP _ p
              case n2 => have := HWI.out.size; simp; omega
              intro vz wz hz gz nz
              obtain ⟨a8, c8, rfl, -⟩ := hz.shape
              have hlt9 := HHF.out.lt
              have hsz9 := HWI.out.size
              have HVA := Lib.hid hz
              have HWA : Hid (Below wo.heap.size wo wz) := Lib.hid (((below_dn HWI.out _).alloc hsz9 _).grown gz (by simp; omega) (fun g hg => (hlt9 g hg).1))
              clear hz gz nz hlt9 hsz9
              go_wp2
              go_roundg (m - (j + 1))
              case measure => omega
              case rel => exact ⟨j + 1, (F) ++ [p], a8, q + 1, c8, true, rfl, by go_num, by omega, rfl, by omega, rfl, HT, HD1, Lib.hid (by rw [List.length_append, HFL.out]; rfl), Lib.hid (by rw [flat_snoc]; exact HVA.out), HWA⟩
          | false =>
            by_cases hbl9 : bl p.key o.key = true
            · have hle9 : Op.bytesLess p.key.toList o.key.toList = true := hbl9
              have HD1 : Hid (stepD o (E.take (j + 1)) = false) := Lib.hid (by rw [HDS.out, hbl9]; rfl)
              have hkk : ¬ p.key = o.key := fun e => by rw [e, bl_ord.irr] at hbl9; cases hbl9
              have e3 : (p.key.toList == o.key.toList) = false := beq_eq_false_iff_ne.2 (fun e => hkk (ofList_inj _ _ e))
              have e4 : (p.key.toList != o.key.toList) = true := by rw [bne, e3]; rfl
              have HT : Hid (stepF o (E.take (j + 1)) = F ++ [p]) := Lib.hid (by rw [HFS.out, decide_eq_false hkk, hbl9]; simp)
              clear hkk hbl9
              go_wp2_with fail
              go_quiet (fail)
              go_wp2_with fail
              go_quiet (fail)
              go_wp2_with (at_builtin; refine wpList_append_at _ rfl (.tmp 71) (.tmp 76) 46 rfl wo.heap.size 49 i0 (.agg #[.string ⟨#[]⟩, .string ⟨#[]⟩]) 2 32 Try.underlying46 hi hz0 hz1 hz2 rfl (by decide) (.slice a5 (q) c5) (q) (flat PairR.cells (F)) rfl (by first | exact (has_dn HHF.out _).alloc _ | exact has_dn (HHF.out.alloc _) _) ⟨_, 0, Option.none⟩ 1 1 (PairR.cells p) rfl rfl ?n1 (PairR.cells_one _) (by unfold maxLen; omega) (by omega) ?n2 ?_)
              case n1 => exact news_freshP _ p
              case n2 => have := HWI.out.size; simp; omega
              intro vz wz hz gz nz
              obtain ⟨a8, c8, rfl, -⟩ := hz.shape
              have hlt9 := HHF.out.lt
              have hsz9 := HWI.out.size
              have HVA := Lib.hid hz
              have HWA : Hid (Below wo.heap.size wo wz) := Lib.hid (((below_dn HWI.out _).alloc hsz9 _).grown gz (by simp; omega) (fun g hg => (hlt9 g hg).1))
              clear hz gz nz hlt9 hsz9
              go_wp2
              go_roundg (m - (j + 1))
              case measure => omega
              case rel => exact ⟨j + 1, (F) ++ [p], a8, q + 1, c8, false, rfl, by go_num, by omega, rfl, by omega, rfl, HT, HD1, Lib.hid (by rw [List.length_append, HFL.out]; rfl), Lib.hid (by rw [flat_snoc]; exact HVA.out), HWA⟩
            · have hblf : bl p.key o.key = false := by simpa using hbl9
              have hle9 : Op.bytesLess p.key.toList o.key.toList = false := hblf
              have HD1 : Hid (stepD o (E.take (j + 1)) = true) := Lib.hid (by rw [HDS.out, hblf]; rfl)
              have HBF := Lib.hid hblf
              clear hbl9 hblf
              by_cases hput : o.kind = 1
              · have hp1 : (o.kind == 1) = true := by simpa using hput
                have HPT : Hid (putP o = [⟨o.key, o.val⟩]) := Lib.hid (by unfold putP; rw [if_pos hput])
                clear hput
                have HHW : Hid (∀ W, Below wr.heap.size wr W → Has W wo.heap.size 2 (.slice a5 q c5) q (flat PairR.cells F)) := Lib.hid (fun W hW => HHF.out.below hW (fun g hg => (HHF.out.lt g hg).2))
                have hbw := HWI.out.size
                go_wp2_with fail
                go_quiet (fail)
                go_wp2_with fail
                go_region_law
                  (first
                  | (refine step_append_sl _ rfl (some 59) (by rfl) (.tmp 46) (.tmp 58) 46 (by rfl) wo.heap.size 49 i0 (.agg #[.string ⟨#[]⟩, .string ⟨#[]⟩]) 2 32 Try.underlying46 hi hz0 hz1 hz2 rfl (by decide) (.slice a5 q c5) q (flat PairR.cells F) (by rfl) (HHW.out _ (bel_ad wr _ _)) ⟨wr.heap.size, 0, none⟩ 1 1 (PairR.cells ⟨o.key, o.val⟩) (by rfl) (by rfl) (news_freshP (wr.drewN _) ⟨o.key, o.val⟩) (PairR.cells_one _) (by unfold maxLen; omega) (by omega) (Nat.le_trans HWI.out.size (bel_ad wr _ _).size) ?_; intro a7 c7 wa hva ga na))
                all_goals
                  have hlt9 := HHF.out.lt
                  have HH7 := Lib.hid (show Has wa wo.heap.size 2 (.slice a7 (q + 1) c7) (q + 1) (flat PairR.cells (F ++ [⟨o.key, o.val⟩])) by rw [flat_snoc]; exact hva)
                  have HW7 : Hid (Below wo.heap.size wo wa) := Lib.hid ((HWI.out.trans ((bel_ad wr _ _).mono hbw)).grown ga (Nat.le_trans hbw (bel_ad wr _ _).size) (fun g hg => (hlt9 g hg).1))
                  have HFL7 : Hid ((F ++ [(⟨o.key, o.val⟩ : PairR)]).length = q + 1) := Lib.hid (by rw [List.length_append, HFL.out]; rfl)
                  clear hva ga na hlt9 x1 x2 x3 x4 x5
                  obtain ⟨x1, x2, x3, x4, x5⟩ := HPC.out wa HW7.out
                  by_cases hkk : p.key = o.key
                  · have e3 : (p.key.toList == o.key.toList) = true := by rw [hkk]; simp
                    have e4 : (p.key.toList != o.key.toList) = false := by rw [hkk]; simp
                    have HT : Hid (stepF o (E.take (j + 1)) = F ++ [(⟨o.key, o.val⟩ : PairR)]) := Lib.hid (by rw [HFS.out, decide_eq_true hkk]; rw [HBF.out, HPT.out]; simp)
                    clear hkk
                    go_wp2_with fail
                    go_quiet (fail)
                    go_wp2
                    go_roundg (m - (j + 1))
                    case measure => omega
                    case rel => exact ⟨j + 1, F ++ [(⟨o.key, o.val⟩ : PairR)], a7, q + 1, c7, true, rfl, by go_num, by omega, rfl, by omega, rfl, HT, HD1, HFL7, Lib.hid (has_dn HH7.out _), Lib.hid (below_dn HW7.out _)⟩
                  · have e3 : (p.key.toList == o.key.toList) = false := beq_eq_false_iff_ne.2 (fun e => hkk (ofList_inj _ _ e))
                    have e4 : (p.key.toList != o.key.toList) = true := by rw [bne, e3]; rfl
                    have HT : Hid (stepF o (E.take (j + 1)) = (F ++ [(⟨o.key, o.val⟩ : PairR)]) ++ [p]) := Lib.hid (by rw [HFS.out, decide_eq_false hkk]; rw [HBF.out, HPT.out]; simp)
                    clear hkk
                    go_wp2_with fail
                    go_quiet (fail)
                    go_wp2_with (at_builtin; refine wpList_append_at _ rfl (.tmp 71) (.tmp 76) 46 rfl wo.heap.size 49 i0 (.agg #[.string ⟨#[]⟩, .string ⟨#[]⟩]) 2 32 Try.underlying46 hi hz0 hz1 hz2 rfl (by decide) (.slice a7 (q + 1) c7) (q + 1) (flat PairR.cells (F ++ [(⟨o.key, o.val⟩ : PairR)])) rfl (by first | exact (has_dn HH7.out _).alloc _ | exact has_dn (HH7.out.alloc _) _) ⟨_, 0, Option.none⟩ 1 1 (PairR.cells p) rfl rfl ?n1 (PairR.cells_one _) (by unfold maxLen; omega) (by omega) ?n2 ?_)
                    case n1 => exact news_freshP _ p
                    case n2 => have := HW7.out.size; simp; omega
                    intro vz wz hz gz nz
                    obtain ⟨a8, c8, rfl, -⟩ := hz.shape
                    have hlt9 := HH7.out.lt
                    have hsz9 := HW7.out.size
                    have HVA := Lib.hid hz
                    have HWA : Hid (Below wo.heap.size wo wz) := Lib.hid (((below_dn HW7.out _).alloc hsz9 _).grown gz (by simp; omega) (fun g hg => (hlt9 g hg).1))
                    clear hz gz nz hlt9 hsz9
                    go_wp2
                    go_roundg (m - (j + 1))
                    case measure => omega
                    case rel => exact ⟨j + 1, (F ++ [(⟨o.key, o.val⟩ : PairR)]) ++ [p], a8, q + 1 + 1, c8, true, rfl, by go_num, by omega, rfl, by omega, rfl, HT, HD1, Lib.hid (by rw [List.length_append, HFL7.out]; rfl), Lib.hid (by rw [flat_snoc]; exact HVA.out), HWA⟩
              · have hp1 : (o.kind == 1) = false := by simpa using hput
                have HPT : Hid (putP o = []) := Lib.hid (by unfold putP; rw [if_neg hput])
                clear hput
                by_cases hkk : p.key = o.key
                · have e3 : (p.key.toList == o.key.toList) = true := by rw [hkk]; simp
                  have e4 : (p.key.toList != o.key.toList) = false := by rw [hkk]; simp
                  have HT : Hid (stepF o (E.take (j + 1)) = F) := Lib.hid (by rw [HFS.out, decide_eq_true hkk]; rw [HBF.out, HPT.out]; simp)
                  clear hkk
                  go_wp2_with fail
                  go_quiet (fail)
                  go_wp2_with fail
                  go_quiet (fail)
                  go_wp2
                  go_roundg (m - (j + 1))
                  case measure => omega
                  case rel => exact ⟨j + 1, F, a5, q, c5, true, rfl, by go_num, by omega, rfl, by omega, rfl, HT, HD1, HFL, Lib.hid (has_dn HHF.out _), Lib.hid (below_dn HWI.out _)⟩
                · have e3 : (p.key.toList == o.key.toList) = false := beq_eq_false_iff_ne.2 (fun e => hkk (ofList_inj _ _ e))
                  have e4 : (p.key.toList != o.key.toList) = true := by rw [bne, e3]; rfl
                  have HT : Hid (stepF o (E.take (j + 1)) = (F) ++ [p]) := Lib.hid (by rw [HFS.out, decide_eq_false hkk]; rw [HBF.out, HPT.out]; simp)
                  clear hkk
                  go_wp2_with fail
                  go_quiet (fail)
                  go_wp2_with fail
                  go_quiet (fail)
                  go_wp2_with (at_builtin; refine wpList_append_at _ rfl (.tmp 71) (.tmp 76) 46 rfl wo.heap.size 49 i0 (.agg #[.string ⟨#[]⟩, .string ⟨#[]⟩]) 2 32 Try.underlying46 hi hz0 hz1 hz2 rfl (by decide) (.slice a5 (q) c5) (q) (flat PairR.cells (F)) rfl (by first | exact (has_dn HHF.out _).alloc _ | exact has_dn (HHF.out.alloc _) _) ⟨_, 0, Option.none⟩ 1 1 (PairR.cells p) rfl rfl ?n1 (PairR.cells_one _) (by unfold maxLen; omega) (by omega) ?n2 ?_)
                  case n1 => exact news_freshP _ p
                  case n2 => have := HWI.out.size; simp; omega
                  intro vz wz hz gz nz
                  obtain ⟨a8, c8, rfl, -⟩ := hz.shape
                  have hlt9 := HHF.out.lt
                  have hsz9 := HWI.out.size
                  have HVA := Lib.hid hz
                  have HWA : Hid (Below wo.heap.size wo wz) := Lib.hid (((below_dn HWI.out _).alloc hsz9 _).grown gz (by simp; omega) (fun g hg => (hlt9 g hg).1))
                  clear hz gz nz hlt9 hsz9
                  go_wp2
                  go_roundg (m - (j + 1))
                  case measure => omega
                  case rel => exact ⟨j + 1, (F) ++ [p], a8, q + 1, c8, true, rfl, by go_num, by omega, rfl, by omega, rfl, HT, HD1, Lib.hid (by rw [List.length_append, HFL.out]; rfl), Lib.hid (by rw [flat_snoc]; exact HVA.out), HWA⟩
        · have hgej : decide ((j : Int) < m) = false := by simp; omega
          obtain rfl : j = m := by omega
          have HOV : Hid (overP l (ops.take (k + 1)) = F ++ cond d [] (putP o)) := Lib.hid (by
            have q1 := Pl.step_is_over bl PairR.key OpR.key putP bl_ord o E HSE.out
            have e1 : E.take j = E := List.take_of_length_le (by rw [HEL.out]; exact Nat.le_refl _)
            have q2 := HF.out
            have q3 := HDN.out
            rw [e1] at q2 q3
            unfold stepF at q2
            unfold stepD at q3
            rw [q2, q3] at q1
            rw [HSK.out, HE.out, ← q1])
          have HOL : Hid ((overP l (ops.take (k + 1))).length ≤ n0 + (k + 1)) := Lib.hid (by
            rw [HSK.out, HE.out]
            have q1 := over1_len E o
            rw [HEL.out] at q1
            omega)
          obtain ⟨x3, x4, x5⟩ : wr.cell? ⟨b2, o2 + k * 3, none⟩ = some (.int .i64 o.kind) ∧ wr.cell? ⟨b2, o2 + k * 3 + 1, none⟩ = some (.string o.key) ∧ wr.cell? ⟨b2, o2 + k * 3 + 2, none⟩ = some (.string o.val) := by
            have z := HOC.out
            exact ⟨by rw [HWI.out.cell HBL2.out]; exact z.1, by rw [HWI.out.cell HBL2.out]; exact z.2.1, by rw [HWI.out.cell HBL2.out]; exact z.2.2⟩
          have HHB := Lib.hid (HHF.out.base_le hbase)
          have HWB : Hid (Below w.heap.size w wr) := Lib.hid (HW.out.trans (HWI.out.mono hbase))
          cases d with
          | true =>
            have HT : Hid (overP l (ops.take (k + 1)) = F) := Lib.hid (by rw [HOV.out]; simp)
            have hq9 : q ≤ n0 + (k + 1) := by have h1 := HOL.out; rw [HT.out, HFL.out] at h1; exact h1
            go_wp2
            go_roundg (n - (k + 1))
            case measure => omega
            case rel => exact ⟨k + 1, F, a5, q, c5, rfl, by go_num, by omega, rfl, hq9, HT, HFL, HHB, HWB⟩
          | false =>
            by_cases hput : o.kind = 1
            · have hp1 : (o.kind == 1) = true := by simpa using hput
              have HPT : Hid (putP o = [⟨o.key, o.val⟩]) := Lib.hid (by unfold putP; rw [if_pos hput])
              have HT : Hid (overP l (ops.take (k + 1)) = F ++ [⟨o.key, o.val⟩]) := Lib.hid (by rw [HOV.out, HPT.out]; simp)
              have hq9 : q + 1 ≤ n0 + (k + 1) := by have h1 := HOL.out; rw [HT.out, List.length_append, HFL.out] at h1; exact h1
              clear hput
              have HHW : Hid (∀ W, Below wr.heap.size wr W → Has W w.heap.size 2 (.slice a5 q c5) q (flat PairR.cells F)) := Lib.hid (fun W hW => HHB.out.below hW (fun g hg => (HHB.out.lt g hg).2))
              have hbw := HWB.out.size
              go_wp2_with fail
              go_region_law
                (first
                | (refine step_append_sl _ rfl (some 101) (by rfl) (.tmp 88) (.tmp 100) 46 (by rfl) w.heap.size 49 i0 (.agg #[.string ⟨#[]⟩, .string ⟨#[]⟩]) 2 32 Try.underlying46 hi hz0 hz1 hz2 rfl (by decide) (.slice a5 q c5) q (flat PairR.cells F) (by rfl) (HHW.out _ (bel_ad wr _ _)) ⟨wr.heap.size, 0, none⟩ 1 1 (PairR.cells ⟨o.key, o.val⟩) (by rfl) (by rfl) (news_freshP (wr.drewN _) ⟨o.key, o.val⟩) (PairR.cells_one _) (by unfold maxLen; omega) (by omega) (Nat.le_trans HWB.out.size (bel_ad wr _ _).size) ?_; intro a7 c7 wa hva ga na))
              all_goals
                have hlt9 := HHB.out.lt
                have HH7 := Lib.hid (show Has wa w.heap.size 2 (.slice a7 (q + 1) c7) (q + 1) (flat PairR.cells (F ++ [⟨o.key, o.val⟩])) by rw [flat_snoc]; exact hva)
                have HW7 : Hid (Below w.heap.size w wa) := Lib.hid ((HWB.out.trans ((bel_ad wr _ _).mono hbw)).grown ga (Nat.le_trans hbw (bel_ad wr _ _).size) (fun g hg => (hlt9 g hg).1))
                clear hva ga na hlt9
                go_wp2
                go_roundg (n - (k + 1))
                case measure => omega
                case rel => exact ⟨k + 1, F ++ [⟨o.key, o.val⟩], a7, q + 1, c7, rfl, by go_num, by omega, rfl, hq9, HT, Lib.hid (by rw [List.length_append, HFL.out]; rfl), HH7, HW7⟩
            · have hp1 : (o.kind == 1) = false := by simpa using hput
              have HT : Hid (overP l (ops.take (k + 1)) = F) := Lib.hid (by rw [HOV.out]; unfold putP; rw [if_neg hput]; simp)
              have hq9 : q ≤ n0 + (k + 1) := by have h1 := HOL.out; rw [HT.out, HFL.out] at h1; exact h1
              clear hput
              go_wp2
              go_roundg (n - (k + 1))
              case measure => omega
              case rel => exact ⟨k + 1, F, a5, q, c5, rfl, by go_num, by omega, rfl, hq9, HT, HFL, HHB, HWB⟩
    · have hge : decide ((k : Int) < n) = false := by simp; omega
      go_wp2
      go_ret
      have e1 : E = D := by rw [← HE.out, List.take_of_length_le (by rw [HN.out]; omega), HD.out]
      have e2 : m = mD := by rw [← HEL.out, e1, HMD.out]
      subst e1 e2
      exact ⟨_, _, rfl, HH.out, HW.out⟩
end Go.Proofs.Ytcgkpgjjifggcaa
