/-
  Merge: the law MergeViews walked.
-/
import Derived.Test.YtcgkpgjjifggcaaN31
namespace Go.Proofs.Ytcgkpgjjifggcaa
set_option linter.unusedVariables false
set_option linter.unusedSimpArgs false
open Go.RowKit Sl

theorem nd_of (D : List CellR) (h : Pl.Srt CellR.ver verLt D) : Pl.Nd bl ckey D := List.Pairwise.imp (fun {a b} hab => by
  simp only [verLt, Bool.or_eq_true, Bool.and_eq_true, decide_eq_true_eq] at hab
  unfold ckey
  rcases hab with h | ⟨h, _⟩
  · exact bl_ord.asym _ _ h
  · rw [h]; exact bl_irr _) h
theorem view_doc_eq (q : Int) (D : List CellR) (h : Pl.Srt CellR.ver verLt D) : docP q D = viewP q D := (Pl.view_is_doc bl ckey (lowB q) tellP bl_ord D (nd_of D h)).symm
theorem view_srt (q : Int) (D : List CellR) (h : Pl.Srt CellR.ver verLt D) : Pl.Srt PairR.key bl (viewP q D) :=
  (Pl.view_rise bl ckey (lowB q) tellP PairR.key bl_ord (fun c => by unfold tellP; split <;> simp) (fun c p hp => by unfold tellP at hp; split at hp; simp at hp; subst hp; rfl; simp at hp) D none (nd_of D h) (by simp)).1
theorem view_low_eq (q : Int) (D : List CellR) : viewP q (D.filter (lowB q)) = viewP q D := Pl.viewGo_low ckey (lowB q) tellP D none
theorem filter_snoc (q : Int) (D : List CellR) (k : Nat) (c : CellR) (h : D[k]? = some c) : (D.take (k + 1)).filter (lowB q) = (D.take k).filter (lowB q) ++ (if lowB q c = true then [c] else []) := by
  rw [take_snoc D k c h, List.filter_append]
  congr 1
  by_cases h2 : lowB q c = true
  · rw [if_pos h2, List.filter_cons_of_pos h2]; rfl
  · rw [if_neg h2, List.filter_cons_of_neg h2]; rfl

structure ViewsK (w2 : World) (g : Nat) (D : List CellR) (m : Nat) : Prop where
  A1 : ∀ W, Below w2.heap.size w2 W → Calls Try.prog 11 #[.slice (some ⟨g, 0, none⟩) 3 3] W (AllK D m W)
  srt : Pl.Srt CellR.ver verLt D
  len : D.length = m
  small : m ≤ 1000
theorem views_parts (w2 : World) (g : Nat) (L : List (List CellR)) (hL : L.length = 3) (hs : Sorted L) (h60 : ∀ l ∈ L, l.length ≤ 60) (hlv : LV w2 (fun _ => False) (.slice (some ⟨g, 0, none⟩) 3 3) L) :
    ∃ D m, ViewsK w2 g D m := by
  have hto : total L ≤ 180 := by have := total_le L 60 h60; rw [hL] at this; omega
  have hl := Nat.le_trans (docA_total L) hto
  exact ⟨docA L, (docA L).length, ⟨fun W hW => allK _ L _ W (hlv.below hW) hs (by omega) (by omega) _ _ rfl rfl, docA_srt L hs, rfl, by omega⟩⟩

set_option maxRecDepth 100000 in
set_option maxHeartbeats 12800000 in
theorem views_walk (v : Value) (l : List CellR) (S : Nat → Prop) (vw : Value) (xs : List Int) (S' : Nat → Prop) (q : Int) (w : World) (h : CV w S v l) (hw : SlV intE w S' vw xs) :
    Calls Try.prog 6 #[v, vw, .int .i64 q] w fun e w' => e = .returned (.bool true) ∧ Below w.heap.size w w' := by
  obtain ⟨i0, hi, hz0, hz1, hz2⟩ := info_parts Try.infoCell
  have HB := Lib.hid (blends_ok w)
  have HSP : Hid (∀ W, Below w.heap.size w W → Calls Try.prog 10 #[v, vw, .int .i64 3] W fun e w2 => ∃ g D m, e = .returned (.slice (some ⟨g, 0, none⟩) 3 3) ∧ ViewsK w2 g D m ∧ Below w.heap.size w w2) := Lib.hid (fun W hW => (split_ok v l S vw xs S' 3 W (h.below hW) (hw.below hW) (by omega) (by omega)).mono (by
    rintro e w2 ⟨g, L, rfl, hL6, hso, hl60, hlv, hb2⟩
    obtain ⟨D, m, hk⟩ := views_parts w2 g L hL6 hso hl60 (LV.mono hlv (fun _ h => h.elim))
    exact ⟨g, D, m, rfl, hk, hW.trans (hb2.mono hW.size)⟩))
  clear h hw
  go_enter Try.func6, Try.ntmps6
  go_wp2_with fail
  refine (HB.out).mono ?_
  rintro e w1 ⟨rfl, hb1⟩
  have HB1 := Lib.hid hb1
  clear hb1 HB
  go_wp2_with fail
  refine (HSP.out _ HB1.out).mono ?_
  rintro e w2 ⟨g, D, m, rfl, hk, hb2⟩
  have HK := Lib.hid hk
  have HB2 := Lib.hid hb2
  clear hk hb2 HSP HB1
  go_wp2_with fail
  refine (HK.out.A1 _ (Below.refl _ _)).mono ?_
  rintro e w3 ⟨a1, c1, rfl, hcv1, hb3⟩
  have HC := Lib.hid hcv1
  have HB3 := Lib.hid (HB2.out.trans (hb3.mono HB2.out.size))
  have HCL := Lib.hid (SlV.lim hcv1 (T := fun k => w3.heap.size ≤ k) (fun b hb _ h => by omega))
  have hm := HK.out.small
  have HLN := Lib.hid HK.out.len
  have HSR := Lib.hid HK.out.srt
  have hcc := SlV.len hcv1
  obtain ⟨-, hcc1, hcc2⟩ := hcc
  unfold maxLen at hcc2
  have HVE := Lib.hid (view_doc_eq q D HSR.out)
  have HVS := Lib.hid (view_srt q D HSR.out)
  have HVF := Lib.hid (view_low_eq q D)
  have HVL := Lib.hid (view_len q D none)
  have HFS := Lib.hid (fun k c hc => filter_snoc q D k c hc)
  clear hcv1 hb3 HK HB2
  go_wp2_with fail
  go_loopg [9, 10] m (fun g s9 s10 wr => ∃ (k : Nat) (E : List CellR) (a : Option Addr) (e c : Nat), g = m - k ∧ s10 = .int .i64 k ∧ k ≤ m ∧ s9 = .slice a e c ∧ e ≤ k ∧ Hid ((D.take k).filter (lowB q) = E) ∧ Hid (E.length = e) ∧ Hid (Has wr w3.heap.size 4 (.slice a e c) e (flat CellR.cells E)) ∧ Hid (Below w3.heap.size w3 wr))
  case atStart => exact ⟨0, [], none, 0, 0, by omega, rfl, Nat.zero_le _, rfl, Nat.le_refl _, Lib.hid rfl, Lib.hid rfl, Lib.hid (Has.nil _ _ _), Lib.hid (Below.refl _ _)⟩
  case round =>
    obtain ⟨k, E, a3, en, c3, rfl, rfl, hk, rfl, hek, HE, HEL, HH, HW⟩ := hrel
    by_cases hlt : k < m
    · have hltI : (k : Int) < m := by omega
      have hk0 : (0 : Int) ≤ (k : Int) := by omega
      obtain ⟨bb, o, rfl, hS, hbl, hcs⟩ := CV.of (HC.out.below HW.out) (by omega)
      obtain ⟨c, hc⟩ := get_of (l := D) (k := k) (by have := HLN.out; omega)
      obtain ⟨x1, x2, x3, x4⟩ := hcs k c hc
      have HFK := Lib.hid (HFS.out k c hc)
      clear hcs hc hS
      by_cases hq : c.ver.seq ≤ q
      · have HE2 : Hid ((D.take (k + 1)).filter (lowB q) = E ++ [c]) := Lib.hid (by rw [HFK.out, HE.out, if_pos (by unfold lowB; simpa using hq)])
        have hbase := HW.out.size
        go_wp2_with (at_builtin; refine wpList_append_at _ rfl (.tmp 38) (.tmp 43) 22 rfl w3.heap.size 42 i0 (.agg #[.string ⟨#[]⟩, .int .i64 0, .int .i64 0, .string ⟨#[]⟩]) 4 48 Try.underlying22 hi hz0 hz1 hz2 rfl (by decide) (.slice a3 en c3) en (flat CellR.cells E) rfl (HH.out.alloc _) ⟨_, 0, Option.none⟩ 1 1 c.cells rfl rfl ?_ (CellR.cells_one c) (by unfold maxLen; omega) (by omega) ?_ ?_)
        · exact news_fresh _ c
        · simp; omega
        · intro va wa hva ga na
          obtain ⟨a8, c8, rfl, -⟩ := hva.shape
          have hlt9 := HH.out.lt
          have HVA := Lib.hid hva
          have HWA : Hid (Below w3.heap.size w3 wa) := Lib.hid ((HW.out.alloc hbase _).grown ga (by simp; omega) (fun g hg => (hlt9 g hg).1))
          clear hva ga na hlt9
          go_wp2
          go_roundg (m - (k + 1))
          case measure => omega
          case rel => exact ⟨k + 1, E ++ [c], a8, en + 1, c8, rfl, by go_num, by omega, rfl, by omega, HE2, Lib.hid (by rw [List.length_append, HEL.out]; rfl), Lib.hid (by rw [flat_snoc]; exact HVA.out), HWA⟩
      · have HE2 : Hid ((D.take (k + 1)).filter (lowB q) = E) := Lib.hid (by rw [HFK.out, HE.out, if_neg (by unfold lowB; simpa using hq), List.append_nil])
        have hq1 : decide (c.ver.seq ≤ q) = false := by simpa using hq
        go_wp2
        go_roundg (m - (k + 1))
        case measure => omega
        case rel => exact ⟨k + 1, E, a3, en, c3, rfl, by go_num, by omega, rfl, by omega, HE2, HEL, HH, HW⟩
    · have hge : decide ((k : Int) < m) = false := by simp; omega
      have HE2 : Hid (D.filter (lowB q) = E) := Lib.hid (by rw [← HE.out, List.take_of_length_le (by rw [HLN.out]; omega)])
      clear HE HFS
      have HCE : Hid (CV wr (fun k => k < w3.heap.size) (.slice a3 en c3) E) := Lib.hid (by have h0 := HH.out; rw [← HEL.out] at h0 ⊢; exact SlV.of_has h0)
      obtain ⟨P, hP⟩ : ∃ P, viewP q D = P := ⟨_, rfl⟩
      obtain ⟨p, hp⟩ : ∃ p, P.length = p := ⟨_, rfl⟩
      have HP1 : Hid (∀ W, Below wr.heap.size wr W → Calls Try.prog 19 #[.slice a1 m c1, .int .i64 q] W (PairsPost P p W)) := Lib.hid (fun W hW => view_ok _ D _ q W ((HC.out.below HW.out).below hW) (by rw [HLN.out]; omega) P p hP hp)
      have HP2 : Hid (∀ W, Below wr.heap.size wr W → Calls Try.prog 21 #[.slice a1 m c1, .int .i64 q] W (PairsPost P p W)) := Lib.hid (fun W hW => docView_ok _ D _ q W ((HC.out.below HW.out).below hW) (by rw [HLN.out]; omega) P p (by rw [HVE.out, hP]) hp)
      have HP3 : Hid (∀ W, Below wr.heap.size wr W → Calls Try.prog 19 #[.slice a3 en c3, .int .i64 q] W (PairsPost P p W)) := Lib.hid (fun W hW => view_ok _ E _ q W (HCE.out.below hW) (by rw [HEL.out]; omega) P p (by rw [← HE2.out, HVF.out, hP]) hp)
      have hp1000 : p ≤ 1000 := by have := HVL.out; rw [show Pl.viewGo ckey (lowB q) tellP Option.none D = P from hP, hp, HLN.out] at this; omega
      have HPS : Hid (Pl.Srt PairR.key bl P) := Lib.hid (hP ▸ HVS.out)
      have HPL := Lib.hid hp
      clear hP hp HVE HVS HVF HVL HCE HE2
      go_wp2_with fail
      refine (HP1.out _ (Below.refl _ _)).mono ?_
      rintro e w4 ⟨a4, c4, rfl, hh4, hb4⟩
      have HV4 : Hid (SlV PairR.cells w4 (fun k => k < wr.heap.size) (.slice a4 p c4) P) := Lib.hid (by rw [← HPL.out] at hh4 ⊢; exact SlV.of_has hh4)
      have hc4 := SlV.len HV4.out
      obtain ⟨-, hc41, hc42⟩ := hc4
      unfold maxLen at hc42
      have HB4 := Lib.hid hb4
      clear hh4 hb4 HP1
      go_wp2_with fail
      go_loopg [12] p (fun g s12 wi => ∃ (j d : Nat), g = p - j ∧ s12 = .int .i64 ((j : Int) + 1) ∧ j ≤ p ∧ wi = w4.drewN d)
      case atStart => exact ⟨0, 0, by omega, by simp, Nat.zero_le _, rfl⟩
      case round =>
        obtain ⟨j, dn, rfl, rfl, hjp, hwi⟩ := hrel
        subst hwi
        by_cases hj : j + 1 < p
        · have hjI : (j : Int) + 1 < p := by omega
          obtain ⟨bb, o, rfl, -, hbl, hps⟩ := PV.of HV4.out (by omega)
          obtain ⟨x, hx⟩ := get_of (l := P) (k := j) (by have := HPL.out; omega)
          obtain ⟨y, hy⟩ := get_of (l := P) (k := j + 1) (by have := HPL.out; omega)
          obtain ⟨x1, x2⟩ := hps j x hx
          obtain ⟨y1, y2⟩ := hps (j + 1) y hy
          have hlt9 : bl x.key y.key = true := adj_srt PairR.key bl P HPS.out j x y hx hy
          have hle : Op.bytesLess x.key.toList y.key.toList = true := hlt9
          have e1 : IntKind.i64.wrap ((j : Int) + 1 - 1) = j := by rw [Int.add_sub_cancel]; exact IntWalk.i64_in _ (by omega)
          have b1 : (0 : Int) ≤ (j : Int) := by omega
          have b2 : (j : Int) < p := by omega
          have b3 : ((j : Int) + 1).toNat = j + 1 := by omega
          have b4 : (0 : Int) ≤ (j : Int) + 1 := by omega
          clear hps hx hy hlt9
          go_wp2_with fail
          go_quiet (fail)
          clear e1 b3
          go_wp2
          go_roundg (p - (j + 1))
          case measure => omega
          case rel => exact ⟨j + 1, _, rfl, by go_num, by omega, rfl⟩
        · have hge2 : decide ((j : Int) + 1 < p) = false := by simp; omega
          have HW4 := Lib.hid (below_dn HB4.out dn)
          go_wp2_with fail
          refine (HP2.out _ HW4.out).mono ?_
          rintro e w5 ⟨a5, c5, rfl, hh5, hb5⟩
          have HV5 : Hid (SlV PairR.cells w5 (fun _ => False) (.slice a5 p c5) P) := Lib.hid (by rw [← HPL.out] at hh5 ⊢; exact (SlV.of_has hh5).mono (fun _ h => h.elim))
          have HV4 : Hid (SlV PairR.cells w5 (fun _ => False) (.slice a4 p c4) P) := Lib.hid (((HV4.out.mono (fun _ h => h.elim)).below (below_dn (Below.refl _ _) dn)).below hb5)
          have HW5 := Lib.hid (HW4.out.trans (hb5.mono HW4.out.size))
          clear hh5 hb5
          go_wp2_with fail
          refine (pairs_eq _ _ P _ _ _ HV4.out HV5.out).mono ?_
          rintro e w6 ⟨rfl, hb6⟩
          have HW6 := Lib.hid (HW5.out.trans (hb6.mono HW5.out.size))
          have HV4 := Lib.hid (HV4.out.below hb6)
          clear hb6
          go_wp2_with fail
          refine (HP3.out _ HW6.out).mono ?_
          rintro e w7 ⟨a7, c7, rfl, hh7, hb7⟩
          have HV7 : Hid (SlV PairR.cells w7 (fun _ => False) (.slice a7 p c7) P) := Lib.hid (by rw [← HPL.out] at hh7 ⊢; exact (SlV.of_has hh7).mono (fun _ h => h.elim))
          have HV4 := Lib.hid (HV4.out.below hb7)
          have HW7 := Lib.hid (HW6.out.trans (hb7.mono HW6.out.size))
          clear hh7 hb7
          go_wp2_with fail
          refine (pairs_eq _ _ P _ _ _ HV7.out HV4.out).mono ?_
          rintro e w8 ⟨rfl, hb8⟩
          have HW8 := Lib.hid (HW7.out.trans (hb8.mono HW7.out.size))
          clear hb8
          go_wp2
          go_ret
          exact ⟨rfl, (HB3.out.trans (HW.out.mono HB3.out.size)).trans (HW8.out.mono (Nat.le_trans HB3.out.size HW.out.size))⟩
end Go.Proofs.Ytcgkpgjjifggcaa
