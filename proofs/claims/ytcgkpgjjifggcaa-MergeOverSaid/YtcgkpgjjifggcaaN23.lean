/-
  Merge: contract of the document's DocAll.
-/
import Derived.Test.YtcgkpgjjifggcaaN22
namespace Go.Proofs.Ytcgkpgjjifggcaa
set_option linter.unusedVariables false
set_option linter.unusedSimpArgs false
open Go.RowKit Sl
attribute [local go_sem] Qu.plus_cell Qu.plus_frozen

theorem docAll_take (L : List (List CellR)) (k : Nat) (l : List CellR) (h : L[k]? = some l) : docA (L.take (k + 1)) = Pl.mrg CellR.ver verLt (docA (L.take k)) l := by
  obtain ⟨h1, rfl⟩ := List.getElem?_eq_some_iff.1 h
  unfold docA
  rw [List.take_succ_eq_append_getElem h1, Pl.docAll_snoc]
theorem mrg_len (a b : List CellR) : (Pl.mrg CellR.ver verLt a b).length ≤ a.length + b.length := by
  fun_induction Pl.mrg CellR.ver verLt a b with
  | case1 b => simp
  | case2 x a => simp
  | case3 x a y b h ih => simp at *; omega
  | case4 x a y b h e ih => simp at *; omega
  | case5 x a y b h e ih => simp at *; omega
theorem docA_len (L : List (List CellR)) : ∀ k, (docA (L.take k)).length ≤ total L := by
  have h : ∀ (M : List (List CellR)) (a : List CellR), (M.foldl (Pl.mrg CellR.ver verLt) a).length ≤ a.length + total M := by
    intro M
    induction M with
    | nil => intro a; simp [total]
    | cons l M ih =>
      intro a
      have e1 := ih (Pl.mrg CellR.ver verLt a l)
      have e2 := mrg_len a l
      simp only [List.foldl_cons, total, List.map_cons, List.sum_cons] at *
      omega
  intro k
  have h1 := h (L.take k) []
  have h2 : total (L.take k) ≤ total L := by
    unfold total
    conv => rhs; rw [← List.take_append_drop k L]
    rw [List.map_append, List.sum_append]; omega
  simp at h1
  exact Nat.le_trans h1 h2

theorem SlV.lim {α : Type} {enc : α → List Value} {w : World} {S T : Nat → Prop} {v : Value} {l : List α} (h : SlV enc w S v l) (hT : ∀ b, b < w.heap.size → ¬ S b → ¬ T b) : SlV enc w T v l := by
  obtain ⟨ao, cap, h1, h2, h3, h4⟩ := h
  refine ⟨ao, cap, h1, h2, h3, ?_⟩
  rcases h4 with h4 | ⟨b, o, h5, h6, h7, h8⟩
  · exact .inl h4
  · exact .inr ⟨b, o, h5, hT b h7 h6, h7, h8⟩
theorem cv_tail {w : World} {S : Nat → Prop} {b o n cap : Nat} {x : CellR} {l : List CellR} (h : CV w S (.slice (some ⟨b, o, Option.none⟩) n cap) (x :: l)) {v : Value} (hv : (v = .slice (some ⟨b, o, Option.none⟩) (n - 1) 0 ∧ cap = 1) ∨ (v = .slice (some ⟨b, o + 4, Option.none⟩) (n - 1) (cap - 1) ∧ ¬ cap = 1)) : CV w S v l := by
  have hn := (SlV.len h).1
  have := SlV.cutLo CellR.cells_len h 1 (by rw [← hn]; simp)
  rcases hv with ⟨rfl, hc⟩ | ⟨rfl, hc⟩
  · rw [if_pos hc] at this
    rw [hc] at this
    exact this
  · rw [if_neg hc] at this
    exact this
theorem news_fresh (W : World) (c : CellR) : ∀ j u, (CellR.cells c)[j]? = some u → (W.alloc (.cells #[.string c.ver.key, .int .i64 c.ver.seq, .int .i64 c.ver.kind, .string c.val] 42)).cell? ((⟨W.heap.size, 0, Option.none⟩ : Addr).add j) = some u :=
  news_cell _ _ c (Box.new W c).key (Box.new W c).seq (Box.new W c).kind (Box.new W c).val
theorem app_mod {wo wr W wa : World} {v : Value} {X : Obj} (hW : Below wr.heap.size wr W) (hv : ∀ g, v.ownBlock = some g → wo.heap.size ≤ g) (ga : (W.alloc X).grownBy wa v.ownBlock) : Mod (fun k => wo.heap.size ≤ k) wr wa :=
  ((Mod.of_below hW (Nat.le_refl _)).trans (Mod.of_below ((Below.refl _ _).alloc (Nat.le_refl _) X) (Nat.le_refl _))).trans ((Mod.of_grown ga).mono (fun k hk => hv k hk))
set_option maxHeartbeats 800000 in
theorem docAll_big (v : Value) (L : List (List CellR)) (S : Nat → Prop) (w : World) (h : LV w S v L) (hb : 1000 < L.length) :
    Calls Try.prog 13 #[v] w fun e w' => e = .returned (.tuple #[.slice none 0 0, .int .i64 14]) ∧ w = w' := by
  obtain ⟨ao, cap, hv⟩ := h.shape
  obtain ⟨n, hn⟩ : ∃ n, L.length = n := ⟨_, rfl⟩
  rw [hn] at hv hb
  subst hv
  have hb2 : (1000 : Int) < n := by omega
  clear h hn
  go_enter Try.func13, Try.ntmps13
  go_wp2
  go_ret2
  exact ⟨rfl, rfl⟩

theorem mrg_ge (a b : List CellR) : a.length ≤ (Pl.mrg CellR.ver verLt a b).length ∧ b.length ≤ (Pl.mrg CellR.ver verLt a b).length := by
  fun_induction Pl.mrg CellR.ver verLt a b with
  | case1 b => simp
  | case2 x a => simp
  | case3 x a y b h ih => simp at *; omega
  | case4 x a y b h e ih => simp at *; omega
  | case5 x a y b h e ih => simp at *; omega
set_option maxRecDepth 100000 in
set_option maxHeartbeats 12800000 in
theorem docAll_ok (v : Value) (L : List (List CellR)) (S : Nat → Prop) (w : World) (h : LV w S v L) (hb : L.length ≤ 1000) (hbig : total L ≤ 1000000) :
    Calls Try.prog 13 #[v] w (AllPost L w) := by
  obtain ⟨i0, hi, hz0, hz1, hz2⟩ := info_parts Try.infoCell
  obtain ⟨ao, cap, hv⟩ := h.shape
  obtain ⟨n, hn⟩ : ∃ n, L.length = n := ⟨_, rfl⟩
  rw [hn] at hv hb
  subst hv
  obtain ⟨-, h2, h3⟩ := h.len
  unfold maxLen at h3
  have HV := Lib.hid h
  have HN := Lib.hid hn
  have HBIG := Lib.hid hbig
  have hb2 : decide ((1000 : Int) < n) = false := by simp; omega
  clear h hn hbig
  go_enter Try.func13, Try.ntmps13
  go_wp2_with fail
  go_loopg [4] n (fun g s4 wr => ∃ k : Nat, g = n - k ∧ s4 = .int .i64 k ∧ k ≤ n ∧ Hid (∀ t l, t < k → L[t]? = some l → Pl.Srt CellR.ver verLt l) ∧ Hid (Below w.heap.size w wr))
  case atStart => exact ⟨0, by omega, rfl, Nat.zero_le _, Lib.hid (fun t _ h _ => absurd h (Nat.not_lt_zero _)), Lib.hid (Below.refl _ _)⟩
  case round =>
    obtain ⟨k, rfl, rfl, hk, HS, HW⟩ := hrel
    by_cases hlt : k < n
    · have hlt2 : (k : Int) < n := by omega
      obtain ⟨bb, o, rfl, hS, hbl, hcs⟩ := LV.of (HV.out.below HW.out) (by omega)
      obtain ⟨l, hl⟩ := get_of (l := L) (k := k) (by have := HN.out; omega)
      obtain ⟨al, cl, hc, hcv⟩ := hcs k l hl
      have HL := Lib.hid hl
      obtain ⟨b, hbs⟩ : ∃ b, b = true ↔ Pl.Srt CellR.ver verLt l := by
        by_cases h : Pl.Srt CellR.ver verLt l
        · exact ⟨true, by simp [h]⟩
        · exact ⟨false, by simp [h]⟩
      have HBS := Lib.hid hbs
      have HSO := Lib.hid (docSorted_ok (.slice al l.length cl) l S wr hcv b hbs)
      obtain ⟨m, hm⟩ : ∃ m, l.length = m := ⟨_, rfl⟩
      rw [hm] at hc HSO
      clear hcs hl hcv hbs hm hS
      cases b with
      | false =>
        go_wp2_with fail
        refine (HSO.out).mono ?_
        rintro e w1 ⟨rfl, hb1⟩
        go_wp2
        go_ret2
        refine .inr (.inl ⟨by rw [HN.out]; exact hb, fun h => ?_, rfl, HW.out.trans (hb1.mono HW.out.size)⟩)
        have := HBS.out.2 (h l (List.mem_of_getElem? HL.out))
        cases this
      | true =>
        go_wp2_with fail
        refine (HSO.out).mono ?_
        rintro e w1 ⟨rfl, hb1⟩
        have HB1 := Lib.hid hb1
        clear hb1
        go_wp2
        go_roundg (n - (k + 1))
        case measure => omega
        case rel =>
          refine ⟨k + 1, rfl, by go_num, by omega, Lib.hid (fun t l' ht h1 => ?_), Lib.hid (HW.out.trans (HB1.out.mono HW.out.size))⟩
          by_cases htk : t = k
          · subst htk
            have e1 := HL.out.symm.trans h1
            cases e1
            exact HBS.out.1 trivial
          · exact HS.out t l' (by omega) h1
    · have hge : decide ((k : Int) < n) = false := by simp; omega
      have HSO : Hid (Sorted L) := Lib.hid (fun l hl => by
        obtain ⟨t, ht, rfl⟩ := List.getElem_of_mem hl
        exact HS.out t _ (by rw [HN.out] at ht; omega) (by simp))
      clear HS
      obtain ⟨wz, rfl⟩ : ∃ wz : World, wz = wr := ⟨_, rfl⟩
      have HWZ := HW
      clear HW
      go_wp2_with fail
      go_loopg [5, 6] n (fun g s5 s6 wr => ∃ (k m : Nat) (D : List CellR) (a3 : Option Addr) (c3 : Nat), g = n - k ∧ s6 = .int .i64 k ∧ k ≤ n ∧ s5 = .slice a3 m c3 ∧ Hid (docA (L.take k) = D) ∧ Hid (D.length = m) ∧ Hid (Has wr w.heap.size 4 (.slice a3 m c3) m (flat CellR.cells D)) ∧ Hid (Below w.heap.size w wr))
      case atStart => exact ⟨0, 0, [], none, 0, by omega, rfl, Nat.zero_le _, rfl, Lib.hid rfl, Lib.hid rfl, Lib.hid (Has.nil _ _ _), HWZ⟩
      case round =>
        obtain ⟨k, m, D, a3, c3, rfl, rfl, hk, rfl, HD, HDL, HH, HW⟩ := hrel
        by_cases hlt : k < n
        · have hlt2 : (k : Int) < n := by omega
          have hk0 : (0 : Int) ≤ (k : Int) := by omega
          obtain ⟨bb, o, rfl, hS, hbl, hcs⟩ := LV.of (HV.out.below HW.out) (by omega)
          obtain ⟨l, hl⟩ := get_of (l := L) (k := k) (by have := HN.out; omega)
          obtain ⟨al, cl, hc, hcv⟩ := hcs k l hl
          have HL := Lib.hid hl
          have HDT := Lib.hid (docAll_take L k l hl)
          have HCV := Lib.hid hcv
          obtain ⟨ml, hml⟩ : ∃ ml, l.length = ml := ⟨_, rfl⟩
          have HML := Lib.hid hml
          have hcap3 := SlV.len (SlV.of_has (by have := HH.out; rw [← HDL.out] at this; exact this))
          obtain ⟨-, hc3, hc3b⟩ := hcap3
          obtain ⟨-, hc4, hc4b⟩ := SlV.len hcv
          unfold maxLen at hc3b hc4b
          rw [hml] at hc HCV hc4
          have HLEN := Lib.hid (docA_len L (k + 1))
          have HCD : Hid (CV wr (fun k => k < w.heap.size) (.slice a3 m c3) D) := Lib.hid (by have := HH.out; rw [← HDL.out] at this ⊢; exact SlV.of_has this)
          clear hcs hl hcv hml hS
          obtain ⟨wo, rfl⟩ : ∃ wo : World, wo = wr := ⟨_, rfl⟩
          go_wp2_with fail
          go_quiet (fail)
          go_wp2_with fail
          have HCD2 : Hid (CV (wo.drewN nq) (fun k => wo.heap.size ≤ k) (.slice a3 m c3) D) := Lib.hid ((SlV.lim HCD.out (fun b hb _ hs => by omega)).below (below_dn (Below.refl _ _) nq))
          have HCL2 : Hid (CV (wo.drewN nq) (fun k => wo.heap.size ≤ k) (.slice al ml cl) l) := Lib.hid ((SlV.lim HCV.out (fun b hb _ hs => by omega)).below (below_dn (Below.refl _ _) nq))
          go_loopg [7, 8, 9] (m + ml) (fun g s7 s8 s9 wi => ∃ (A B E : List CellR) (aa : Option Addr) (ma ca : Nat) (ab : Option Addr) (mb cb : Nat) (a7 : Option Addr) (m7 c7 : Nat), g = ma + mb ∧ s7 = .slice a7 m7 c7 ∧ s8 = .slice aa ma ca ∧ s9 = .slice ab mb cb ∧ Hid (Pl.mrg CellR.ver verLt D l = E ++ Pl.mrg CellR.ver verLt A B) ∧ Hid (CV wi (fun k => wo.heap.size ≤ k) (.slice aa ma ca) A) ∧ Hid (CV wi (fun k => wo.heap.size ≤ k) (.slice ab mb cb) B) ∧ Hid (E.length = m7) ∧ Hid (Has wi wo.heap.size 4 (.slice a7 m7 c7) m7 (flat CellR.cells E)) ∧ Hid (Below wo.heap.size wo wi))
          case atStart => exact ⟨D, l, [], a3, m, c3, al, ml, cl, Option.none, 0, 0, rfl, rfl, rfl, rfl, Lib.hid rfl, HCD2, HCL2, Lib.hid rfl, Lib.hid (Has.nil _ _ _), Lib.hid (below_dn (Below.refl _ _) nq)⟩
          case round =>
            clear HCD2 HCL2
            obtain ⟨A, B, E, aa, ma, ca, ab, mb, cb, a7, m7, c7, rfl, rfl, rfl, rfl, HE, HA, HB, HEL, HH7, HWI⟩ := hrel
            have hAl := SlV.len HA.out
            have hBl := SlV.len HB.out
            obtain ⟨hA1, hA2, hA3⟩ := hAl
            obtain ⟨hB1, hB2, hB3⟩ := hBl
            unfold maxLen at hA3 hB3
            have HA1 := Lib.hid hA1
            have HB1 := Lib.hid hB1
            have HTOT : Hid (m7 + ma ≤ 1000000 ∧ m7 + mb ≤ 1000000) := Lib.hid (by
              have h1 := HLEN.out
              rw [HDT.out, HD.out, HE.out, List.length_append, HEL.out] at h1
              have h2 := HBIG.out
              have h3 := mrg_ge A B
              rw [hA1, hB1] at h3
              omega)
            clear hA1 hB1
            by_cases ha0 : ma = 0
            · subst ha0
              obtain rfl : A = [] := List.length_eq_zero_iff.1 HA1.out
              by_cases hb0 : mb = 0
              · subst hb0
                obtain rfl : B = [] := List.length_eq_zero_iff.1 HB1.out
                go_wp2
                go_roundg (n - (k + 1))
                case measure => omega
                case rel => exact ⟨k + 1, m7, E, a7, c7, rfl, by go_num, by omega, rfl, Lib.hid (by rw [HDT.out, HD.out, HE.out]; simp [Pl.mrg]), HEL, Lib.hid (HH7.out.base_le HW.out.size), Lib.hid (HW.out.trans (HWI.out.mono HW.out.size))⟩
              · have hb1 : 0 < mb := by omega
                have hb1I : (0 : Int) < mb := by omega
                have hbz : ((mb : Int) == 0) = false := by simp; omega
                obtain ⟨y, B, rfl⟩ : ∃ y B', B = y :: B' := List.exists_cons_of_ne_nil (fun e => by have := HB1.out; rw [e] at this; simp at this; omega)
                obtain ⟨kb, ob, rfl, hSb, hbbl, hbcs⟩ := CV.of HB.out hb1
                obtain ⟨y1, y2, y3, y4⟩ := hbcs 0 y rfl
                simp only [Nat.zero_mul, Nat.add_zero] at y1 y2 y3 y4
                have HEQ : Hid (Pl.mrg CellR.ver verLt D l = (E ++ [y]) ++ Pl.mrg CellR.ver verLt [] B) := Lib.hid (by rw [HE.out, Pl.nil_mrg, Pl.nil_mrg]; simp)
                clear hbcs hSb
                go_wp2_with fail
                refine Qu.wp_region_plus (by kernel_rfl) (by kernel_rfl) ?_
                repeat (go_big_quiet_step (fail))
                refine wpQuiet_nil ?_
                rintro _ ⟨X, rfl⟩
                have HXX := Lib.hid (Qu.plus_below wr X)
                have HTT := HTOT.out.2
                go_wp2_with (at_builtin; refine wpList_append_at _ rfl (.tmp 88) (.tmp 92) 22 rfl wo.heap.size 42 i0 (.agg #[.string ⟨#[]⟩, .int .i64 0, .int .i64 0, .string ⟨#[]⟩]) 4 48 Try.underlying22 hi hz0 hz1 hz2 rfl (by decide) (.slice a7 m7 c7) m7 (flat CellR.cells E) rfl ((HH7.out.below HXX.out (fun g hg => (HH7.out.lt g hg).2)).alloc _) ⟨_, 0, Option.none⟩ 1 1 y.cells rfl rfl ?_ (CellR.cells_one y) (by unfold maxLen; omega) (by omega) ?_ ?_)
                · exact news_fresh _ y
                · exact Nat.le_trans (Nat.le_trans HWI.out.size HXX.out.size) (by simp)
                · intro va wa hva ga na
                  obtain ⟨a8, c8, rfl, -⟩ := hva.shape
                  have HMO := Lib.hid (app_mod (wo := wo) HXX.out (fun g hg => (HH7.out.lt g hg).1) ga)
                  have HVA := Lib.hid hva
                  have HEL2 : Hid ((E ++ [y]).length = m7 + 1) := Lib.hid (by rw [List.length_append, HEL.out]; rfl)
                  have HWA : Hid (Below wo.heap.size wo wa) := Lib.hid (HWI.out.trans (HMO.out.below (fun k hk => hk) HWI.out.size))
                  clear hva ga na
                  go_wp2
                  all_goals go_roundg (0 + (mb - 1))
                  all_goals first
                    | (show _ < _; omega)
                    | exact ⟨[], B, E ++ [y], _, 0, ca, _, mb - 1, _, a8, m7 + 1, c8, rfl, rfl, rfl, rfl, HEQ, Lib.hid (HA.out.mod HMO.out), Lib.hid (cv_tail (HB.out.mod HMO.out) (by first | exact .inl ⟨rfl, by assumption⟩ | exact .inr ⟨rfl, by assumption⟩)), HEL2, Lib.hid (by rw [flat_snoc]; exact HVA.out), HWA⟩
            · have ha1 : 0 < ma := by omega
              have ha1I : (0 : Int) < ma := by omega
              obtain ⟨x, A, rfl⟩ : ∃ x A', A = x :: A' := List.exists_cons_of_ne_nil (fun e => by have := HA1.out; rw [e] at this; simp at this; omega)
              obtain ⟨ka, oa, rfl, hSa, habl, hacs⟩ := CV.of HA.out ha1
              obtain ⟨x1, x2, x3, x4⟩ := hacs 0 x rfl
              simp only [Nat.zero_mul, Nat.add_zero] at x1 x2 x3 x4
              clear hacs hSa
              by_cases hb0 : mb = 0
              · subst hb0
                obtain rfl : B = [] := List.length_eq_zero_iff.1 HB1.out
                have HEQ : Hid (Pl.mrg CellR.ver verLt D l = (E ++ [x]) ++ Pl.mrg CellR.ver verLt A []) := Lib.hid (by rw [HE.out, Pl.mrg_nil, Pl.mrg_nil]; simp)
                go_wp2_with fail
                refine Qu.wp_region_plus (by kernel_rfl) (by kernel_rfl) ?_
                repeat (go_big_quiet_step (fail))
                refine wpQuiet_nil ?_
                rintro _ ⟨X, rfl⟩
                have HXX := Lib.hid (Qu.plus_below wr X)
                go_wp2_with fail
                go_quiet (fail)
                have HXX := Lib.hid (below_dn HXX.out nq)
                have HTT := HTOT.out.1
                go_wp2_with (at_builtin; refine wpList_append_at _ rfl (.tmp 80) (.tmp 84) 22 rfl wo.heap.size 42 i0 (.agg #[.string ⟨#[]⟩, .int .i64 0, .int .i64 0, .string ⟨#[]⟩]) 4 48 Try.underlying22 hi hz0 hz1 hz2 rfl (by decide) (.slice a7 m7 c7) m7 (flat CellR.cells E) rfl ((HH7.out.below HXX.out (fun g hg => (HH7.out.lt g hg).2)).alloc _) ⟨_, 0, Option.none⟩ 1 1 x.cells rfl rfl ?_ (CellR.cells_one x) (by unfold maxLen; omega) (by omega) ?_ ?_)
                · exact news_fresh _ x
                · exact Nat.le_trans (Nat.le_trans HWI.out.size HXX.out.size) (by simp)
                · intro va wa hva ga na
                  obtain ⟨a8, c8, rfl, -⟩ := hva.shape
                  have HMO := Lib.hid (app_mod (wo := wo) HXX.out (fun g hg => (HH7.out.lt g hg).1) ga)
                  have HVA := Lib.hid hva
                  have HEL2 : Hid ((E ++ [x]).length = m7 + 1) := Lib.hid (by rw [List.length_append, HEL.out]; rfl)
                  have HWA : Hid (Below wo.heap.size wo wa) := Lib.hid (HWI.out.trans (HMO.out.below (fun k hk => hk) HWI.out.size))
                  clear hva ga na
                  go_wp2
                  all_goals go_roundg (ma - 1 + 0)
                  all_goals first
                    | (show _ < _; omega)
                    | exact ⟨A, [], E ++ [x], _, ma - 1, _, ab, 0, cb, a8, m7 + 1, c8, rfl, rfl, rfl, rfl, HEQ, Lib.hid (cv_tail (HA.out.mod HMO.out) (by first | exact .inl ⟨rfl, by assumption⟩ | exact .inr ⟨rfl, by assumption⟩)), Lib.hid (HB.out.mod HMO.out), HEL2, Lib.hid (by rw [flat_snoc]; exact HVA.out), HWA⟩
              · have hb1 : 0 < mb := by omega
                have hb1I : (0 : Int) < mb := by omega
                have hbz : ((mb : Int) == 0) = false := by simp; omega
                obtain ⟨y, B, rfl⟩ : ∃ y B', B = y :: B' := List.exists_cons_of_ne_nil (fun e => by have := HB1.out; rw [e] at this; simp at this; omega)
                obtain ⟨kb, ob, rfl, hSb, hbbl, hbcs⟩ := CV.of HB.out hb1
                obtain ⟨y1, y2, y3, y4⟩ := hbcs 0 y rfl
                simp only [Nat.zero_mul, Nat.add_zero] at y1 y2 y3 y4
                obtain ⟨r, hr⟩ : ∃ r, verLt y.ver x.ver = r := ⟨_, rfl⟩
                have HIK : Hid (∀ w', Calls Try.prog 27 #[.agg #[.string y.ver.key, .int .i64 y.ver.seq, .int .i64 y.ver.kind], .agg #[.string x.ver.key, .int .i64 x.ver.seq, .int .i64 x.ver.kind]] w' fun e w'' => e = .returned (.bool r) ∧ Below w'.heap.size w' w'') :=
                  Lib.hid (fun w' => hr ▸ docLess_ok y.ver x.ver w')
                have HR := Lib.hid hr
                clear hbcs hSb hr
                cases r with
                | true =>
                  have HEQ : Hid (Pl.mrg CellR.ver verLt D l = (E ++ [y]) ++ Pl.mrg CellR.ver verLt (x :: A) B) := Lib.hid (by rw [HE.out, Pl.mrg_b CellR.ver verLt x y A B HR.out]; simp)
                  go_wp2_with fail
                  refine Qu.wp_region_plus (by kernel_rfl) (by kernel_rfl) ?_
                  repeat (go_big_quiet_step ((refine Qu.plus_call (HIK.out _))))
                  refine wpQuiet_nil ?_
                  rintro _ ⟨X, rfl⟩
                  have HXX := Lib.hid (Qu.plus_below wr X)
                  have HTT := HTOT.out.2
                  go_wp2_with (at_builtin; refine wpList_append_at _ rfl (.tmp 88) (.tmp 92) 22 rfl wo.heap.size 42 i0 (.agg #[.string ⟨#[]⟩, .int .i64 0, .int .i64 0, .string ⟨#[]⟩]) 4 48 Try.underlying22 hi hz0 hz1 hz2 rfl (by decide) (.slice a7 m7 c7) m7 (flat CellR.cells E) rfl ((HH7.out.below HXX.out (fun g hg => (HH7.out.lt g hg).2)).alloc _) ⟨_, 0, Option.none⟩ 1 1 y.cells rfl rfl ?_ (CellR.cells_one y) (by unfold maxLen; omega) (by omega) ?_ ?_)
                  · exact news_fresh _ y
                  · exact Nat.le_trans (Nat.le_trans HWI.out.size HXX.out.size) (by simp)
                  · intro va wa hva ga na
                    obtain ⟨a8, c8, rfl, -⟩ := hva.shape
                    have HMO := Lib.hid (app_mod (wo := wo) HXX.out (fun g hg => (HH7.out.lt g hg).1) ga)
                    have HVA := Lib.hid hva
                    have HEL2 : Hid ((E ++ [y]).length = m7 + 1) := Lib.hid (by rw [List.length_append, HEL.out]; rfl)
                    have HWA : Hid (Below wo.heap.size wo wa) := Lib.hid (HWI.out.trans (HMO.out.below (fun k hk => hk) HWI.out.size))
                    clear hva ga na
                    go_wp2
                    all_goals go_roundg (ma + (mb - 1))
                    all_goals first
                      | (show _ < _; omega)
                      | exact ⟨(x :: A), B, E ++ [y], _, ma, ca, _, mb - 1, _, a8, m7 + 1, c8, rfl, rfl, rfl, rfl, HEQ, Lib.hid (HA.out.mod HMO.out), Lib.hid (cv_tail (HB.out.mod HMO.out) (by first | exact .inl ⟨rfl, by assumption⟩ | exact .inr ⟨rfl, by assumption⟩)), HEL2, Lib.hid (by rw [flat_snoc]; exact HVA.out), HWA⟩
                | false =>
                  obtain ⟨q, hq⟩ : ∃ q, decide (x.ver = y.ver) = q := ⟨_, rfl⟩
                  have HE2 : Hid (∀ w', (binOp .eql 40 (.agg #[.string x.ver.key, .int .i64 x.ver.seq, .int .i64 x.ver.kind]) (.agg #[.string y.ver.key, .int .i64 y.ver.seq, .int .i64 y.ver.kind])).run Try.prog w' = .ok (.bool q) w') := Lib.hid (fun w' => hq ▸ run_verEq x.ver y.ver w')
                  have HQ := Lib.hid hq
                  clear hq
                  cases q with
                  | true =>
                    have HEQ : Hid (Pl.mrg CellR.ver verLt D l = (E ++ [x]) ++ Pl.mrg CellR.ver verLt A B) := Lib.hid (by rw [HE.out, Pl.mrg_ab CellR.ver verLt x y A B HR.out (of_decide_eq_true HQ.out)]; simp)
                    go_wp2_with fail
                    refine Qu.wp_region_plus (by kernel_rfl) (by kernel_rfl) ?_
                    repeat (go_big_quiet_step ((refine Qu.plus_call (HIK.out _))))
                    refine wpQuiet_nil ?_
                    rintro _ ⟨X, rfl⟩
                    have HXX := Lib.hid (Qu.plus_below wr X)
                    have heq := HE2.out
                    clear HE2
                    go_wp2_with fail
                    go_quiet (fail)
                    have HXX := Lib.hid (below_dn HXX.out nq)
                    clear heq
                    by_cases hcb : cb = 1
                    ·
                      have HTT := HTOT.out.1
                      go_wp2_with (at_builtin; refine wpList_append_at _ rfl (.tmp 80) (.tmp 84) 22 rfl wo.heap.size 42 i0 (.agg #[.string ⟨#[]⟩, .int .i64 0, .int .i64 0, .string ⟨#[]⟩]) 4 48 Try.underlying22 hi hz0 hz1 hz2 rfl (by decide) (.slice a7 m7 c7) m7 (flat CellR.cells E) rfl ((HH7.out.below HXX.out (fun g hg => (HH7.out.lt g hg).2)).alloc _) ⟨_, 0, Option.none⟩ 1 1 x.cells rfl rfl ?_ (CellR.cells_one x) (by unfold maxLen; omega) (by omega) ?_ ?_)
                      · exact news_fresh _ x
                      · exact Nat.le_trans (Nat.le_trans HWI.out.size HXX.out.size) (by simp)
                      · intro va wa hva ga na
                        obtain ⟨a8, c8, rfl, -⟩ := hva.shape
                        have HMO := Lib.hid (app_mod (wo := wo) HXX.out (fun g hg => (HH7.out.lt g hg).1) ga)
                        have HVA := Lib.hid hva
                        have HEL2 : Hid ((E ++ [x]).length = m7 + 1) := Lib.hid (by rw [List.length_append, HEL.out]; rfl)
                        have HWA : Hid (Below wo.heap.size wo wa) := Lib.hid (HWI.out.trans (HMO.out.below (fun k hk => hk) HWI.out.size))
                        clear hva ga na
                        go_wp2
                        all_goals go_roundg (ma - 1 + (mb - 1))
                        all_goals first
                          | (show _ < _; omega)
                          | exact ⟨A, B, E ++ [x], _, ma - 1, _, _, mb - 1, _, a8, m7 + 1, c8, rfl, rfl, rfl, rfl, HEQ, Lib.hid (cv_tail (HA.out.mod HMO.out) (by first | exact .inl ⟨rfl, by assumption⟩ | exact .inr ⟨rfl, by assumption⟩)), Lib.hid (cv_tail (HB.out.mod HMO.out) (by first | exact .inl ⟨rfl, by assumption⟩ | exact .inr ⟨rfl, by assumption⟩)), HEL2, Lib.hid (by rw [flat_snoc]; exact HVA.out), HWA⟩
                    ·
                      have HTT := HTOT.out.1
                      go_wp2_with (at_builtin; refine wpList_append_at _ rfl (.tmp 80) (.tmp 84) 22 rfl wo.heap.size 42 i0 (.agg #[.string ⟨#[]⟩, .int .i64 0, .int .i64 0, .string ⟨#[]⟩]) 4 48 Try.underlying22 hi hz0 hz1 hz2 rfl (by decide) (.slice a7 m7 c7) m7 (flat CellR.cells E) rfl ((HH7.out.below HXX.out (fun g hg => (HH7.out.lt g hg).2)).alloc _) ⟨_, 0, Option.none⟩ 1 1 x.cells rfl rfl ?_ (CellR.cells_one x) (by unfold maxLen; omega) (by omega) ?_ ?_)
                      · exact news_fresh _ x
                      · exact Nat.le_trans (Nat.le_trans HWI.out.size HXX.out.size) (by simp)
                      · intro va wa hva ga na
                        obtain ⟨a8, c8, rfl, -⟩ := hva.shape
                        have HMO := Lib.hid (app_mod (wo := wo) HXX.out (fun g hg => (HH7.out.lt g hg).1) ga)
                        have HVA := Lib.hid hva
                        have HEL2 : Hid ((E ++ [x]).length = m7 + 1) := Lib.hid (by rw [List.length_append, HEL.out]; rfl)
                        have HWA : Hid (Below wo.heap.size wo wa) := Lib.hid (HWI.out.trans (HMO.out.below (fun k hk => hk) HWI.out.size))
                        clear hva ga na
                        go_wp2
                        all_goals go_roundg (ma - 1 + (mb - 1))
                        all_goals first
                          | (show _ < _; omega)
                          | exact ⟨A, B, E ++ [x], _, ma - 1, _, _, mb - 1, _, a8, m7 + 1, c8, rfl, rfl, rfl, rfl, HEQ, Lib.hid (cv_tail (HA.out.mod HMO.out) (by first | exact .inl ⟨rfl, by assumption⟩ | exact .inr ⟨rfl, by assumption⟩)), Lib.hid (cv_tail (HB.out.mod HMO.out) (by first | exact .inl ⟨rfl, by assumption⟩ | exact .inr ⟨rfl, by assumption⟩)), HEL2, Lib.hid (by rw [flat_snoc]; exact HVA.out), HWA⟩
                  | false =>
                    have HEQ : Hid (Pl.mrg CellR.ver verLt D l = (E ++ [x]) ++ Pl.mrg CellR.ver verLt A (y :: B)) := Lib.hid (by rw [HE.out, Pl.mrg_a CellR.ver verLt x y A B HR.out (of_decide_eq_false HQ.out)]; simp)
                    go_wp2_with fail
                    refine Qu.wp_region_plus (by kernel_rfl) (by kernel_rfl) ?_
                    repeat (go_big_quiet_step ((refine Qu.plus_call (HIK.out _))))
                    refine wpQuiet_nil ?_
                    rintro _ ⟨X, rfl⟩
                    have HXX := Lib.hid (Qu.plus_below wr X)
                    have heq := HE2.out
                    clear HE2
                    go_wp2_with fail
                    go_quiet (fail)
                    have HXX := Lib.hid (below_dn HXX.out nq)
                    clear heq
                    have HTT := HTOT.out.1
                    go_wp2_with (at_builtin; refine wpList_append_at _ rfl (.tmp 80) (.tmp 84) 22 rfl wo.heap.size 42 i0 (.agg #[.string ⟨#[]⟩, .int .i64 0, .int .i64 0, .string ⟨#[]⟩]) 4 48 Try.underlying22 hi hz0 hz1 hz2 rfl (by decide) (.slice a7 m7 c7) m7 (flat CellR.cells E) rfl ((HH7.out.below HXX.out (fun g hg => (HH7.out.lt g hg).2)).alloc _) ⟨_, 0, Option.none⟩ 1 1 x.cells rfl rfl ?_ (CellR.cells_one x) (by unfold maxLen; omega) (by omega) ?_ ?_)
                    · exact news_fresh _ x
                    · exact Nat.le_trans (Nat.le_trans HWI.out.size HXX.out.size) (by simp)
                    · intro va wa hva ga na
                      obtain ⟨a8, c8, rfl, -⟩ := hva.shape
                      have HMO := Lib.hid (app_mod (wo := wo) HXX.out (fun g hg => (HH7.out.lt g hg).1) ga)
                      have HVA := Lib.hid hva
                      have HEL2 : Hid ((E ++ [x]).length = m7 + 1) := Lib.hid (by rw [List.length_append, HEL.out]; rfl)
                      have HWA : Hid (Below wo.heap.size wo wa) := Lib.hid (HWI.out.trans (HMO.out.below (fun k hk => hk) HWI.out.size))
                      clear hva ga na
                      go_wp2
                      all_goals go_roundg (ma - 1 + mb)
                      all_goals first
                        | (show _ < _; omega)
                        | exact ⟨A, y :: B, E ++ [x], _, ma - 1, _, _, mb, cb, a8, m7 + 1, c8, rfl, rfl, rfl, rfl, HEQ, Lib.hid (cv_tail (HA.out.mod HMO.out) (by first | exact .inl ⟨rfl, by assumption⟩ | exact .inr ⟨rfl, by assumption⟩)), Lib.hid (HB.out.mod HMO.out), HEL2, Lib.hid (by rw [flat_snoc]; exact HVA.out), HWA⟩
        · have hge : decide ((k : Int) < n) = false := by simp; omega
          go_wp2
          go_ret2
          have e1 : docA L = D := by rw [← HD.out, List.take_of_length_le (by rw [HN.out]; omega)]
          exact .inr (.inr ⟨by rw [HN.out]; exact hb, HSO.out, _, rfl, by rw [e1, HDL.out]; exact HH.out, HW.out⟩)
end Go.Proofs.Ytcgkpgjjifggcaa
