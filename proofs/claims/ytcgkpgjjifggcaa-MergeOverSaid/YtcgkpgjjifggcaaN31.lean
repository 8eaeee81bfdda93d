/-
  Merge: contract of the document's DocView.
-/
import Derived.Test.YtcgkpgjjifggcaaN30
import Derived.Deep.RegionLaw
namespace Go.Proofs.Ytcgkpgjjifggcaa
set_option linter.unusedVariables false
set_option linter.unusedSimpArgs false
open Go.RowKit Sl

abbrev docP (q : Int) (l : List CellR) : List PairR := Pl.docGo ckey (lowB q) tellP [] l
def firstB (q : Int) (c : CellR) (pre : List CellR) : Bool := pre.all (fun d => decide (ckey d ≠ ckey c) || !lowB q d)
theorem docP_snoc (q : Int) (l : List CellR) (k : Nat) (c : CellR) (h : l[k]? = some c) : docP q (l.take (k + 1)) = docP q (l.take k) ++ (if lowB q c = false then [] else if firstB q c (l.take k) = true then tellP c else []) := by
  unfold docP
  rw [take_snoc l k c h, Pl.docGo_snoc, List.nil_append]
  rfl
theorem firstB_snoc (q : Int) (c : CellR) (l : List CellR) (k : Nat) (d : CellR) (h : l[k]? = some d) : firstB q c (l.take (k + 1)) = (firstB q c (l.take k) && (decide (ckey d ≠ ckey c) || !lowB q d)) := by
  unfold firstB
  rw [take_snoc l k d h, List.all_append]
  simp

theorem fb_t (q : Int) (c d : CellR) (h : ckey d ≠ ckey c ∨ lowB q d = false) : (decide (ckey d ≠ ckey c) || !lowB q d) = true := by
  rcases h with h | h
  · rw [decide_eq_true h]; rfl
  · rw [h]; simp
theorem fb_f (q : Int) (c d : CellR) (h1 : ckey d = ckey c) (h2 : lowB q d = true) : (decide (ckey d ≠ ckey c) || !lowB q d) = false := by rw [h2, decide_eq_false (fun h => h h1)]; rfl
theorem bel_ad (wo : World) (X : Obj) (k : Nat) : Below wo.heap.size wo ((wo.drewN k).alloc X) := (below_dn (Below.refl _ _) k).alloc (Nat.le_refl _) X
set_option maxRecDepth 100000 in
set_option maxHeartbeats 12800000 in
theorem docView_ok (v : Value) (l : List CellR) (S : Nat → Prop) (q : Int) (w : World) (h : CV w S v l) (hbig : l.length ≤ 1000000) (D : List PairR) (mD : Nat) (hD : docP q l = D) (hmD : D.length = mD) :
    Calls Try.prog 21 #[v, .int .i64 q] w (PairsPost D mD w) := by
  obtain ⟨i0, hi, hz0, hz1, hz2⟩ := info_parts Try.infoPair
  obtain ⟨ao, cap, hv⟩ := h.shape
  obtain ⟨n, hn⟩ : ∃ n, l.length = n := ⟨_, rfl⟩
  rw [hn] at hv hbig
  subst hv
  obtain ⟨-, h2, h3⟩ := SlV.len h
  unfold maxLen at h3
  have HV := Lib.hid h
  have HN := Lib.hid hn
  have HD := Lib.hid hD
  have HMD := Lib.hid hmD
  clear h hn hD hmD
  go_enter Try.func21, Try.ntmps21
  go_wp2_with fail
  go_loopg [5, 6, 7, 8] n (fun g s5 s6 s7 s8 wr => ∃ (k : Nat) (E : List PairR) (a : Option Addr) (m c : Nat), g = n - k ∧ s6 = .int .i64 (k : Nat) ∧ k ≤ n ∧ s5 = .slice a m c ∧ m ≤ k ∧ Hid (docP q (l.take k) = E) ∧ Hid (E.length = m) ∧ Hid (Has wr w.heap.size 2 (.slice a m c) m (flat PairR.cells E)) ∧ Hid (Below w.heap.size w wr))
  case atStart => exact ⟨0, [], none, 0, 0, by omega, rfl, Nat.zero_le _, rfl, Nat.le_refl _, Lib.hid rfl, Lib.hid rfl, Lib.hid (Has.nil _ _ _), Lib.hid (Below.refl _ _)⟩
  case round =>
    obtain ⟨i, E, a3, m, c3, rfl, rfl, hin, rfl, hmi, HE, HEL, HH, HW⟩ := hrel
    by_cases hlt : i < n
    · have hlt2 : (i : Int) < n := by omega
      have hi0 : (0 : Int) ≤ (i : Int) := by omega
      obtain ⟨bb, o, rfl, hS, hbl, hcs⟩ := CV.of (HV.out.below HW.out) (by omega)
      obtain ⟨c, hc⟩ := get_of (l := l) (k := i) (by have := HN.out; omega)
      obtain ⟨x1, x2, x3, x4⟩ := hcs i c hc
      have HCS := Lib.hid hcs
      have HSN := Lib.hid (docP_snoc q l i c hc)
      have HFS := Lib.hid (fun k d hd => firstB_snoc q c l k d hd)
      clear hcs hc hS
      by_cases hq : c.ver.seq ≤ q
      · have hq1 : decide (q < c.ver.seq) = false := by simp; omega
        have HLW : Hid (lowB q c = true) := Lib.hid (by unfold lowB; simpa using hq)
        obtain ⟨wo, rfl⟩ : ∃ wo : World, wo = wr := ⟨_, rfl⟩
        go_wp2_with fail
        go_loopg [7, 8] i (fun g s7 s8 wi => ∃ (k d : Nat) (f : Bool), g = i - k ∧ s8 = .int .i64 (k : Nat) ∧ k ≤ i ∧ s7 = .bool f ∧ Hid (firstB q c (l.take k) = f) ∧ wi = wo.drewN d)
        case atStart => exact ⟨0, 0, true, by omega, rfl, Nat.zero_le _, rfl, Lib.hid rfl, rfl⟩
        case round =>
          obtain ⟨k, dn, f, rfl, rfl, hki, rfl, HF, hwi⟩ := hrel
          subst hwi
          by_cases hk : k < i
          · have hkI : (k : Int) < i := by omega
            have hkn : (k : Int) < n := by omega
            have hk0 : (0 : Int) ≤ (k : Int) := by omega
            obtain ⟨d, hd⟩ := get_of (l := l) (k := k) (by have := HN.out; omega)
            obtain ⟨y1, y2, y3, y4⟩ := HCS.out k d hd
            have HFK := Lib.hid (HFS.out k d hd)
            clear hd
            cases f with
            | false =>
              have HG : Hid (firstB q c (l.take (k + 1)) = false) := Lib.hid (by rw [HFK.out, HF.out]; rfl)
              go_wp2_with fail
              go_quiet (fail)
              go_wp2
              go_roundg (i - (k + 1))
              case measure => omega
              case rel => exact ⟨k + 1, _, false, rfl, by go_num, by omega, rfl, HG, rfl⟩
            | true =>
              by_cases hkk : d.ver.key = c.ver.key
              · have e3 : (d.ver.key.toList == c.ver.key.toList) = true := by rw [hkk]; simp
                have e4 : (d.ver.key.toList != c.ver.key.toList) = false := by rw [hkk]; simp
                by_cases hdq : q < d.ver.seq
                · have HG : Hid (firstB q c (l.take (k + 1)) = true) := Lib.hid (by rw [HFK.out, HF.out, fb_t q c d (.inr (by unfold lowB; simp; omega))]; rfl)
                  have hdq1 : decide (q < d.ver.seq) = true := by simpa using hdq
                  clear hkk
                  go_wp2_with fail
                  go_quiet (fail)
                  go_wp2
                  go_roundg (i - (k + 1))
                  case measure => omega
                  case rel => exact ⟨k + 1, _, true, rfl, by go_num, by omega, rfl, HG, rfl⟩
                · have HG : Hid (firstB q c (l.take (k + 1)) = false) := Lib.hid (by rw [HFK.out, HF.out, fb_f q c d hkk (by unfold lowB; simp; omega)]; rfl)
                  have hdq1 : decide (q < d.ver.seq) = false := by simpa using hdq
                  clear hkk
                  go_wp2_with fail
                  go_quiet (fail)
                  go_wp2
                  go_roundg (i - (k + 1))
                  case measure => omega
                  case rel => exact ⟨k + 1, _, false, rfl, by go_num, by omega, rfl, HG, rfl⟩
              · have e3 : (d.ver.key.toList == c.ver.key.toList) = false := beq_eq_false_iff_ne.2 (fun e => hkk (ofList_inj _ _ e))
                have e4 : (d.ver.key.toList != c.ver.key.toList) = true := by rw [bne, e3]; rfl
                have HG : Hid (firstB q c (l.take (k + 1)) = true) := Lib.hid (by rw [HFK.out, HF.out, fb_t q c d (.inl hkk)]; rfl)
                clear hkk
                go_wp2_with fail
                go_quiet (fail)
                go_wp2
                go_roundg (i - (k + 1))
                case measure => omega
                case rel => exact ⟨k + 1, _, true, rfl, by go_num, by omega, rfl, HG, rfl⟩
          · have hge : decide ((k : Int) < i) = false := by simp; omega
            obtain rfl : k = i := by omega
            cases f with
            | true =>
              by_cases hput : c.ver.kind = 1
              · have hp1 : (c.ver.kind == 1) = true := by simpa using hput
                have HT : Hid (docP q (l.take (k + 1)) = E ++ [⟨c.ver.key, c.val⟩]) := Lib.hid (by rw [HSN.out, HE.out, if_neg (by rw [HLW.out]; simp), if_pos HF.out]; unfold tellP; rw [if_pos hput])
                have hbase := HW.out.size
                have HHW : Hid (∀ W, Below wo.heap.size wo W → Has W w.heap.size 2 (.slice a3 m c3) m (flat PairR.cells E)) := Lib.hid (fun W hW => HH.out.below hW (fun g hg => (HH.out.lt g hg).2))
                clear hput
                go_wp2_with fail
                go_region_law
                  (first
                  | (refine step_append_sl _ rfl (some 78) (by rfl) (.tmp 64) (.tmp 77) 46 (by rfl) w.heap.size 49 i0 (.agg #[.string ⟨#[]⟩, .string ⟨#[]⟩]) 2 32 Try.underlying46 hi hz0 hz1 hz2 rfl (by decide) (.slice a3 m c3) m (flat PairR.cells E) (by rfl) (HHW.out _ (bel_ad wo _ _)) ⟨wo.heap.size, 0, none⟩ 1 1 (PairR.cells ⟨c.ver.key, c.val⟩) (by rfl) (by rfl) (news_freshP (wo.drewN _) ⟨c.ver.key, c.val⟩) (PairR.cells_one _) (by unfold maxLen; omega) (by omega) (Nat.le_trans HW.out.size (bel_ad wo _ _).size) ?_; intro a8 c8 wa hva ga na))
                all_goals
                  have hlt9 := HH.out.lt
                  have HVA := Lib.hid hva
                  have HWA : Hid (Below w.heap.size w wa) := Lib.hid ((HW.out.trans ((bel_ad wo _ _).mono hbase)).grown ga (Nat.le_trans hbase (bel_ad wo _ _).size) (fun g hg => (hlt9 g hg).1))
                  clear hva ga na hlt9
                  go_wp2
                  go_roundg (n - (k + 1))
                  case measure => omega
                  case rel => exact ⟨k + 1, E ++ [⟨c.ver.key, c.val⟩], a8, m + 1, c8, rfl, by go_num, by omega, rfl, by omega, HT, Lib.hid (by rw [List.length_append, HEL.out]; rfl), Lib.hid (by rw [flat_snoc]; exact HVA.out), HWA⟩
              · have hp1 : (c.ver.kind == 1) = false := by simpa using hput
                have HT : Hid (docP q (l.take (k + 1)) = E) := Lib.hid (by rw [HSN.out, HE.out, if_neg (by rw [HLW.out]; simp), if_pos HF.out]; unfold tellP; rw [if_neg hput, List.append_nil])
                clear hput
                go_wp2
                go_roundg (n - (k + 1))
                case measure => omega
                case rel => exact ⟨k + 1, E, a3, m, c3, rfl, by go_num, by omega, rfl, by omega, HT, HEL, Lib.hid (has_dn HH.out dn), Lib.hid (below_dn HW.out dn)⟩
            | false =>
              have HT : Hid (docP q (l.take (k + 1)) = E) := Lib.hid (by rw [HSN.out, HE.out, if_neg (by rw [HLW.out]; simp), if_neg (by rw [HF.out]; simp), List.append_nil])
              go_wp2
              go_roundg (n - (k + 1))
              case measure => omega
              case rel => exact ⟨k + 1, E, a3, m, c3, rfl, by go_num, by omega, rfl, by omega, HT, HEL, Lib.hid (has_dn HH.out dn), Lib.hid (below_dn HW.out dn)⟩
      · have hq1 : q < c.ver.seq := by omega
        have HLW : Hid (lowB q c = false) := Lib.hid (by unfold lowB; simp; omega)
        have HT : Hid (docP q (l.take (i + 1)) = E) := Lib.hid (by rw [HSN.out, HE.out, if_pos HLW.out, List.append_nil])
        go_wp2
        go_roundg (n - (i + 1))
        case measure => omega
        case rel => exact ⟨i + 1, E, a3, m, c3, rfl, by go_num, by omega, rfl, by omega, HT, HEL, HH, HW⟩
    · have hge : decide ((i : Int) < n) = false := by simp; omega
      go_wp2
      go_ret
      have e1 : E = D := by rw [← HE.out, List.take_of_length_le (by rw [HN.out]; omega), HD.out]
      have e2 : m = mD := by rw [← HEL.out, e1, HMD.out]
      subst e1 e2
      exact ⟨_, _, rfl, HH.out, HW.out⟩
end Go.Proofs.Ytcgkpgjjifggcaa
