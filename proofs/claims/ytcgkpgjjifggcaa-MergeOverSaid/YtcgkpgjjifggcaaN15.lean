/-
  Merge: contract of New.
-/
import Derived.Test.YtcgkpgjjifggcaaN14
import Derived.Deep.RegionLaw
namespace Go.Proofs.Ytcgkpgjjifggcaa
set_option linter.unusedVariables false
set_option linter.unusedSimpArgs false
open Go.RowKit Sl

set_option maxHeartbeats 800000 in
theorem new_big (v : Value) (L : List (List CellR)) (S : Nat → Prop) (w : World) (h : LV w S v L) (hb : 1000 < L.length) :
    Calls Try.prog 14 #[v] w fun e w' => e = .returned (.tuple #[.pointer none, .int .i64 14]) ∧ w = w' := by
  obtain ⟨ao, cap, hv⟩ := h.shape
  obtain ⟨n, hn⟩ : ∃ n, L.length = n := ⟨_, rfl⟩
  rw [hn] at hv hb
  subst hv
  obtain ⟨-, h2, h3⟩ := h.len
  unfold maxLen at h3
  have hb2 : (1000 : Int) < n := by omega
  clear h hn
  go_enter Try.func14, Try.ntmps14
  go_wp2
  go_ret2
  exact ⟨rfl, rfl⟩

def Sorted (L : List (List CellR)) : Prop := ∀ l ∈ L, Pl.Srt CellR.ver verLt l
def NewPost (L : List (List CellR)) (w : World) (e : Ending) (w' : World) : Prop :=
  (¬ Sorted L ∧ e = .returned (.tuple #[.pointer none, .int .i64 2]) ∧ Below w.heap.size w w') ∨
  (Sorted L ∧ ∃ M E T, e = .returned (.tuple #[.pointer (some ⟨M, 0, none⟩), .int .i64 0]) ∧ Mg w' M w.heap.size E T ∧ Pl.RowOf CellR.ver verLt T (Pl.runsOf L) ∧ Below w.heap.size w w')

theorem news_run (W : World) (b : Nat) (v : Value) (r : RunR) (h0 : W.cell? ⟨b, 0, none⟩ = some v) (h1 : W.cell? ⟨b, 1, none⟩ = some (.int .i64 (r.2 : Nat))) : ∀ j u, (runE (v, r))[j]? = some u → W.cell? ((⟨b, 0, none⟩ : Addr).add j) = some u := by
  intro j u hj
  match j, hj with
  | 0, hj => simp [runE] at hj; subst hj; simpa [Addr.add] using h0
  | 1, hj => simp [runE] at hj; subst hj; simpa [Addr.add] using h1
theorem run_one (a : Option Addr) (n c : Nat) (r : RunR) : ∀ u ∈ runE (.slice a n c, r), u.oneCell' = true := by
  intro u hu
  simp only [runE, List.mem_cons, List.not_mem_nil, or_false] at hu
  rcases hu with rfl | rfl <;> rfl
set_option maxRecDepth 100000 in
set_option maxHeartbeats 3200000 in
theorem new_ok (v : Value) (L : List (List CellR)) (S : Nat → Prop) (w : World) (h : LV w S v L) (hb : L.length ≤ 1000) (hbig : ∀ l ∈ L, l.length ≤ 1000000) :
    Calls Try.prog 14 #[v] w (NewPost L w) := by
  obtain ⟨ao, cap, hv⟩ := h.shape
  obtain ⟨n, hn⟩ : ∃ n, L.length = n := ⟨_, rfl⟩
  obtain ⟨i0, hi, hz0, hz1, hz2⟩ := info_parts Try.infoRun
  rw [hn] at hv
  subst hv
  obtain ⟨-, h2, h3⟩ := h.len
  unfold maxLen at h3
  have HV := Lib.hid h
  have HN := Lib.hid hn
  have HBIG := Lib.hid hbig
  have hb1 : n ≤ 1000 := by omega
  have hb2 : decide ((1000 : Int) < n) = false := by simp; omega
  clear h hn hb hbig
  go_enter Try.func14, Try.ntmps14
  go_wp2_with fail
  go_loopw [14] (fun i wr => ∃ (k : Nat) (P : List (Value × RunR)) (vh : Value), i = .int .i64 k ∧ k ≤ n ∧ Hid (∀ t l, t < k → L[t]? = some l → Pl.Srt CellR.ver verLt l) ∧ Hid (P.map Prod.snd = Pl.runsOf (L.take k)) ∧ Hid (Gath w wr w.heap.size vh P))
    (fun i _ => n - (intOf i).toNat)
  case atStart =>
    refine ⟨0, [], .slice none 0 0, rfl, Nat.zero_le _, Lib.hid (fun t _ h _ => absurd h (Nat.not_lt_zero _)), Lib.hid rfl, Lib.hid ⟨by simp [go_sem], by simp [go_sem], World.ownsRow_nil _ _ _ _, fun p hp => absurd hp (by simp), (Below.refl _ _).alloc (Nat.le_refl _) _, Nat.le_refl _⟩⟩
  case round =>
    obtain ⟨k, P, vh, rfl, hk, HS, HP, HG⟩ := hrel
    by_cases hlt : k < n
    · have hlt2 : (k : Int) < n := by omega
      obtain ⟨bb, o, rfl, hS, hbl, hcs⟩ := LV.of (HV.out.below HG.out.bel) (by omega)
      obtain ⟨l, hl⟩ := get_of (l := L) (k := k) (by have := HN.out; omega)
      obtain ⟨al, cl, hc, hcv⟩ := hcs k l hl
      obtain ⟨-, hcl1, hcl2⟩ := SlV.len hcv
      unfold maxLen at hcl2
      have HL := Lib.hid hl
      have hml : l.length ≤ 1000000 := HBIG.out l (List.mem_of_getElem? hl)
      obtain ⟨b, hbs⟩ : ∃ b, b = true ↔ Pl.Srt CellR.ver verLt l := by
        by_cases h : Pl.Srt CellR.ver verLt l
        · exact ⟨true, by simp [h]⟩
        · exact ⟨false, by simp [h]⟩
      have HBS := Lib.hid hbs
      have HSO := Lib.hid (fun W hW => sorted_ok (.slice al l.length cl) l S W (hcv.below hW) b hbs)
      have HCV := Lib.hid hcv
      obtain ⟨m, hm⟩ : ∃ m, l.length = m := ⟨_, rfl⟩
      have HM := Lib.hid hm
      rw [hm] at hc hml hcl1 HSO HCV
      clear hcs hl hcv hbs hm hS
      cases b with
      | false =>
        go_wp2_with fail
        refine (HSO.out _ (Below.refl _ _)).mono ?_
        rintro e w1 ⟨rfl, hb1⟩
        go_wp2
        go_ret2
        refine .inl ⟨fun h => ?_, rfl, HG.out.bel.trans (hb1.mono HG.out.bel.size)⟩
        have := HBS.out.2 (h l (List.mem_of_getElem? HL.out))
        cases this
      | true =>
        cases m with
        | zero =>
          go_wp2_with fail
          refine (HSO.out _ (Below.refl _ _)).mono ?_
          rintro e w1 ⟨rfl, hb1⟩
          have HB1 := Lib.hid hb1
          clear hb1
          go_wp2
          go_roundw
          case rel =>
            refine ⟨k + 1, P, vh, by go_num, by omega, Lib.hid (fun t l' ht h1 => ?_), Lib.hid ?_, Lib.hid (HG.out.later HB1.out)⟩
            · by_cases htk : t = k
              · subst htk
                have e1 := HL.out.symm.trans h1
                cases e1
                exact HBS.out.1 trivial
              · exact HS.out t l' (by omega) h1
            · rw [runsOf_succ L k l HL.out, if_pos (List.length_eq_zero_iff.1 HM.out), List.append_nil]; exact HP.out
          case measure => simp [intOf]; omega
        | succ m =>
          go_wp2_with fail
          refine (HSO.out _ (Below.refl _ _)).mono ?_
          rintro e w1 ⟨rfl, hb1⟩
          have HB1 := Lib.hid hb1
          clear hb1
          have hm0 : (0 : Int) < ((m + 1 : Nat) : Int) := by omega
          have HG1 := Lib.hid (HG.out.later HB1.out)
          have htop := HG1.out.top
          have hMl := HG1.out.lt
          have htopf := HG1.out.topf
          have HOL := Lib.hid HG1.out.own.lt
          have HVN : Hid (¬ some w.heap.size = vh.ownBlock) := Lib.hid (fun h => Nat.not_succ_le_self _ (HOL.out _ h.symm).1)
          have KEEP : Hid (∀ W, Below w1.heap.size w1 W → W.cell? ⟨w.heap.size, 0, none⟩ = some vh ∧ W.frozen? ⟨w.heap.size, 0, none⟩ = false) := Lib.hid (fun W hW => ⟨(hW.cell (p := ⟨w.heap.size, 0, none⟩) hMl).trans htop, (hW.frozen (p := ⟨w.heap.size, 0, none⟩) hMl).trans htopf⟩)
          have HK34 : Hid (∀ W wa, Below w1.heap.size w1 W → W.grownBy wa vh.ownBlock → wa.cell? ⟨w.heap.size, 0, none⟩ = some vh ∧ wa.frozen? ⟨w.heap.size, 0, none⟩ = false) := Lib.hid (fun W wa hW ga => by
            have q3 := ga.block w.heap.size (Nat.lt_of_lt_of_le hMl hW.size) HVN.out
            rw [World.cell?_of_block (a := ⟨w.heap.size, 0, none⟩) q3, World.frozen?_of_block (a := ⟨w.heap.size, 0, none⟩) q3]
            exact KEEP.out W hW)
          have HCL : Hid (∀ W, Below w1.heap.size w1 W → W.heap.size = w1.heap.size → Calls Try.prog 29 #[.slice al (m + 1) cl] W fun e w' => ∃ a2 c2, e = .returned (.slice a2 (m + 1) c2) ∧ RunV w' (fun b => b < w1.heap.size) (.slice a2 (m + 1) c2) l ∧ Below w1.heap.size w1 w') := Lib.hid (fun W hW hWs => by
            refine (clone_ok (.slice al (m + 1) cl) l S W ((HCV.out.below HB1.out).below hW) (by rw [HM.out]; exact hml)).mono ?_
            rintro e w' ⟨v', rfl, hh, hbb⟩
            obtain ⟨a2, c2, rfl, -⟩ := hh.shape
            rw [HM.out]
            refine ⟨a2, c2, rfl, ?_, hW.trans (hbb.mono (by omega))⟩
            rw [← HM.out]
            rw [hWs] at hh
            have := SlV.of_has hh
            exact CV.run (by rw [HM.out] at hh ⊢; exact SlV.of_has (by rw [HM.out]; exact hh)))
          have HPL : Hid (P.length ≤ 1000) := Lib.hid (by
            have e1 : P.length = (P.map Prod.snd).length := by simp
            rw [e1, HP.out]
            refine Nat.le_trans (List.length_filter_le _ _) ?_
            rw [List.length_zipIdx, List.length_take]; omega)
          go_wp2_with fail
          go_region_law
            (first
            | (go_simp; go_at_call 29; refine (HCL.out _ ((Below.refl _ _).drew) rfl).mono ?_; rintro e w2 ⟨a2, c2, rfl, hrun, hb2⟩; obtain ⟨hk1, hk2⟩ := KEEP.out _ hb2; have hk5 := Nat.lt_of_lt_of_le hMl hb2.size; have hk6 := World.new_ne w2 _ hk1)
            | (refine step_append_own_at _ rfl (some 35) (by rfl) (.tmp 29) (.tmp 34) 58 (by rfl) (w.heap.size + 1) 62 i0 (.agg #[.slice none 0 0, .int .i64 0]) 2 32 Try.underlying58 hi hz0 hz1 hz2 rfl (by decide) vh P.length (flat runE P) (by rfl) ?_ ⟨w2.heap.size, 0, none⟩ 1 1 (runE (.slice a2 (m + 1) c2, (l, k))) (by rfl) (by rfl) ?_ ?_ ?_ ?_ ?_ ?_; exact (ownsRow_below HG1.out.own hb2).alloc _; exact news_run _ _ _ _ (by simp [go_sem]) (by simp [go_sem]); exact run_one _ _ _ _; (have := HPL.out; unfold maxLen; omega); (have := HPL.out; omega); (have := hb2.size; simp; omega); intro a3 c3 wa ha ga na; obtain ⟨hk3, hk4⟩ := HK34.out _ _ (Below.alloc hb2 hb2.size _) ga))
          all_goals
            have HPU := Lib.hid (gath_push HG1.out hb2 hrun ha ga na)
            clear hk1 hk2 hk3 hk4 hk5 hk6 ha ga na hrun
            go_wp2
            go_roundw
          all_goals first
            | (refine ⟨k + 1, P ++ [(.slice a2 (m + 1) c2, (l, k))], .slice a3 (P.length + 1) c3, by go_num, by omega, Lib.hid (fun t l' ht h1 => ?_), Lib.hid ?_, HPU⟩
               · by_cases htk : t = k
                 · subst htk
                   have e1 := HL.out.symm.trans h1
                   cases e1
                   exact HBS.out.1 trivial
                 · exact HS.out t l' (by omega) h1
               · rw [runsOf_succ L k l HL.out, if_neg (fun e => by have := HM.out; rw [e] at this; simp at this), List.map_append, HP.out]; rfl)
            | (simp [intOf]; omega)
    · have hge : decide ((k : Int) < n) = false := by simp; omega
      have hkn : k = n := by omega
      have HIN := Lib.hid (gath_init w wr w.heap.size vh P L HG.out (by rw [HP.out, List.take_of_length_le (by rw [HN.out]; omega)]) (fun l hl => by
        obtain ⟨t, ht, rfl⟩ := List.getElem_of_mem hl
        exact HS.out t _ (by rw [HN.out] at ht; omega) (by simp)) (by rw [HN.out]; exact hb1))
      clear hkn
      go_wp2_with fail
      refine (HIN.out).mono ?_
      rintro e w1 ⟨rfl, E, T, hg, hT, hbw⟩
      have HQ := Lib.hid (And.intro hg (And.intro hT hbw))
      clear hg hT hbw
      go_wp2
      go_ret2
      exact .inr ⟨fun l hl => by
        obtain ⟨t, ht, rfl⟩ := List.getElem_of_mem hl
        exact HS.out t _ (by rw [HN.out] at ht; omega) (by simp), _, E, T, rfl, HQ.out⟩
end Go.Proofs.Ytcgkpgjjifggcaa
